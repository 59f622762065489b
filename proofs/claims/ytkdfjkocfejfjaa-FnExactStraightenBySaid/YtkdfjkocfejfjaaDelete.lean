/- slices.Delete of one number out of a list of one's own; moves within an order: plain laws. -/
import Derived.Shelf.Slices.Cells
import Derived.Test.YtkdfjkocfejfjaaInsert
import Derived.Test.YtkdfjkocfejfjaaBack
namespace Go.Proofs.Ytkdfjkocfejfjaa
open Go.RowKit

def laysD_ren : Go.Shelf.Ren := ⟨fun | 23 => 110 | n => n, fun | 22 => 22 | 3 => 3 | 4 => 4 | 0 => 0 | n => n, fun | n => n⟩
theorem laysD : Go.Proofs.Lays2.n23 Try.prog laysD_ren := {
  mixed := by kernel_rfl
  f23 := Try.func110.trans (congrArg some (by kernel_rfl))
  t0 := Try.underlying0
  a0 := Try.isAgg0
  z0 := Try.sizeOf0
  v0 := Try.zeroValue0
  t3 := Try.underlying3
  a3 := Try.isAgg3
  z3 := Try.sizeOf3
  v3 := Try.zeroValue3
  t4 := Try.underlying4
  a4 := Try.isAgg4
  z4 := Try.sizeOf4
  v4 := Try.zeroValue4
  t22 := Try.underlying22
  a22 := Try.isAgg22
  z22 := Try.sizeOf22
  v22 := Try.zeroValue22
  i3 := by kernel_rfl }
def Deleted (w : World) (lo hi g c : Nat) (zs : List Int) (i : Nat) (e : Ending) (w' : World) : Prop :=
  e = .returned (.slice (some ⟨g, 0, none⟩) (zs.length - 1) c) ∧ Own w' lo hi 3 (some ⟨g, 0, none⟩) c (ints (zs.eraseIdx i)) ∧ Only lo hi w w'
theorem erase_take (zs : List Int) (i : Nat) : zs.eraseIdx i = zs.take i ++ zs.drop (i + 1) := List.eraseIdx_eq_take_drop_succ zs i
theorem erase_len (zs : List Int) (i : Nat) (h : i < zs.length) : (zs.eraseIdx i).length = zs.length - 1 := by rw [List.length_eraseIdx, if_pos h]
theorem delete_any (g c i lo hi : Nat) (zs : List Int) (w : World) (h : Own w lo hi 3 (some ⟨g, 0, none⟩) c (ints zs)) (hi' : i < zs.length) (hhi : hi ≤ w.heap.size) :
    Calls Try.prog 110 #[.slice (some ⟨g, 0, none⟩) zs.length c, .int .i64 (i : Int), .int .i64 ((i + 1 : Nat) : Int)] w (Deleted w lo hi g c zs i) := by
  have hlen := ints_length zs
  rcases h with ⟨h, _⟩ | ⟨g', cur, h, ga, gb, hh, h1, h2, h3, h4⟩
  · cases h
  · simp only [Option.some.injEq, Addr.mk.injEq, and_true] at h
    subst h
    rw [hlen] at h1 h4
    have h2' := h2
    unfold maxLen at h2
    have hx := Any.slices_Delete_int_cells laysD g 0 zs.length c i (i + 1) zs w (Nat.le_refl _) h1 (by omega) (by omega) (by omega)
      (fun j hj => by
        rw [cell_of_row w g (0 + j) cur _ (0, 0) hh, Nat.zero_add]
        have hjj : (ints zs)[j]? = some (.int .i64 zs[j]) := ints_get zs j hj
        rw [← h4, List.getElem?_take, if_pos hj] at hjj
        rw [getD_lt _ _ _ hj]
        simpa using hjj)
      (fun j _ => by simp [World.frozen?, hh])
    refine Calls.mono hx ?_
    rintro e w' ⟨rfl, q, rfl⟩
    obtain ⟨cur', e1, e2, e3⟩ := heap_setCells_same (((zs.take zs.length).take i ++ (zs.take zs.length).drop (i + 1) ++ List.replicate (i + 1 - i) 0).map (Value.int .i64)) (w.drewN q) g 0 cur _ hh
    have ho := ((Only.refl lo hi w).drewN q).trans (only_setCells ga gb (((zs.take zs.length).take i ++ (zs.take zs.length).drop (i + 1) ++ List.replicate (i + 1 - i) 0).map (Value.int .i64)) (w.drewN q) 0)
    refine ⟨by rw [show i + 1 - i = 1 by omega], .inr ⟨g, cur', rfl, ga, gb, e1, ?_, h2', e2.trans h3, ?_⟩, ho⟩
    · rw [ints_length, erase_len _ _ hi']; omega
    · rw [ints_length, erase_len _ _ hi', e3, setRow_eq _ _ _ (by simp; omega)]
      have hm : ((zs.take zs.length).take i ++ (zs.take zs.length).drop (i + 1) ++ List.replicate (i + 1 - i) 0).map (Value.int .i64) = ints (zs.eraseIdx i) ++ [.int .i64 0] := by
        rw [List.take_length, erase_take, show i + 1 - i = 1 by omega]
        simp [ints]
      rw [hm, List.take_zero, List.nil_append, List.append_assoc]
      exact List.take_left' (by rw [ints_length, erase_len _ _ hi'])
/-- The player at i moved to k. -/
def mvL (os : List Int) (i k : Nat) : List Int := insAt (os.eraseIdx i) k (os.getD i 0)
theorem mvL_length (os : List Int) (i k : Nat) (hi : i < os.length) (hk : k < os.length) : (mvL os i k).length = os.length := by
  unfold mvL
  have := erase_len os i hi
  rw [insAt_length _ _ _ (by omega)]
  omega
theorem mvL_perm (os : List Int) (i k : Nat) (hi : i < os.length) : (mvL os i k).Perm os := by
  unfold mvL insAt
  refine (List.perm_middle (a := os.getD i 0)).trans ?_
  rw [List.take_append_drop, getD_lt _ _ _ hi, erase_take]
  have h1 := (List.take_append_drop i os).symm
  rw [List.drop_eq_getElem_cons hi] at h1
  have h2 := List.perm_middle (a := os[i]) (l₁ := os.take i) (l₂ := os.drop (i + 1))
  rw [← h1] at h2
  exact h2.symm
theorem orderB_mk (os : List Int) (h1 : ∀ x ∈ os, 0 ≤ x ∧ x < (os.length : Int)) (h2 : os.Nodup) : orderB os = true := by
  refine orderB_yes os fun j hj => ?_
  rw [permAt_eq _ _ hj]
  have hany : ((os.take j).any fun y => os[j] == y) = false := by
    rw [List.any_eq_false]
    intro y hy
    obtain ⟨i, hi, e⟩ := List.mem_iff_getElem.1 hy
    rw [List.length_take] at hi
    rw [List.getElem_take] at e
    rw [beq_iff_eq]
    intro h9
    rw [← e] at h9
    have := (List.getElem_inj h2).1 h9
    omega
  have := h1 _ (List.getElem_mem hj)
  rw [hany]
  simp only [Bool.not_false, Bool.and_true, Bool.and_eq_true, decide_eq_true_eq]
  omega
theorem orderB_perm {os os' : List Int} (hp : os'.Perm os) (h : orderB os = true) : orderB os' = true := by
  obtain ⟨f1, f2⟩ := orderB_facts os h
  refine orderB_mk os' (fun x hx => ?_) ((hp.nodup_iff).2 f2)
  obtain ⟨i, hi, rfl⟩ := List.mem_iff_getElem.1 (hp.mem_iff.1 hx)
  rw [hp.length_eq]
  exact f1 i hi
theorem mvL_order (os : List Int) (i k : Nat) (hi : i < os.length) (h : orderB os = true) : orderB (mvL os i k) = true := orderB_perm (mvL_perm os i k hi) h
/-- The move makes the reversals fewer. -/
def betB (W : List Nat) (os : List Int) (i k : Nat) : Bool := decide (revs W (mvL os i k) < revs W os)
/-- The order behind the first move that makes the reversals fewer. -/
def nxt (W : List Nat) (os : List Int) : Option (List Int) := match (List.range os.length).find? (fun i => (List.range os.length).any (betB W os i)) with
  | none => none
  | some i => match (List.range os.length).find? (betB W os i) with
    | none => none
    | some k => some (mvL os i k)
theorem nxt_at (W : List Nat) (os : List Int) (i k : Nat) (hi : i < os.length) (hk : k < os.length) (h : betB W os i k = true)
    (hn : ∀ i', i' < i → ∀ k', k' < os.length → betB W os i' k' = false) (hn2 : ∀ k', k' < k → betB W os i k' = false) : nxt W os = some (mvL os i k) := by
  have h1 : (List.range os.length).find? (fun i => (List.range os.length).any (betB W os i)) = some i := by
    rw [List.find?_range_eq_some]
    refine ⟨List.any_eq_true.2 ⟨k, List.mem_range.2 hk, h⟩, List.mem_range.2 hi, fun j hj => ?_⟩
    rw [Bool.not_eq_true', List.any_eq_false]
    intro k' hk'
    rw [hn j hj k' (List.mem_range.1 hk')]
    simp
  have h2 : (List.range os.length).find? (betB W os i) = some k := by
    rw [List.find?_range_eq_some]
    exact ⟨h, List.mem_range.2 hk, fun j hj => by rw [hn2 j hj]; rfl⟩
  unfold nxt
  rw [h1]
  show (match (List.range os.length).find? (betB W os i) with | none => none | some k => some (mvL os i k)) = _
  rw [h2]
theorem nxt_none (W : List Nat) (os : List Int) (hn : ∀ i, i < os.length → ∀ k, k < os.length → betB W os i k = false) : nxt W os = none := by
  have h1 : (List.range os.length).find? (fun i => (List.range os.length).any (betB W os i)) = none := by
    rw [List.find?_eq_none]
    intro i hi
    rw [Bool.not_eq_true, List.any_eq_false]
    intro k hk
    rw [hn i (List.mem_range.1 hi) k (List.mem_range.1 hk)]
    simp
  unfold nxt
  rw [h1]
end Go.Proofs.Ytkdfjkocfejfjaa
