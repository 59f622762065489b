/- StraightenBy, walked. -/
import Derived.Test.YtkdfjkocfejfjaaFlip
import Derived.Test.YtkdfjkocfejfjaaBackG
import Derived.Test.YtkdfjkocfejfjaaImproved
namespace Go.Proofs.Ytkdfjkocfejfjaa
open Go.RowKit

/-- A game turned, given as a row. -/
def flipR (W : List Nat) (r : List Int) : List Nat := flipW W (r.getD 0 0).toNat (r.getD 1 0).toNat
def strW (W : List Nat) (rs : List (List Int)) (k : Nat) : List Nat := (rs.take k).foldl flipR W
theorem flipR_pair (W : List Nat) (a b : Nat) : flipR W (pair2 a b) = flipW W a b := by simp [flipR, pair2]
theorem strW_next (W : List Nat) (rs : List (List Int)) (k : Nat) (h : k < rs.length) : strW W rs (k + 1) = flipR (strW W rs k) rs[k] := by
  unfold strW
  rw [List.take_add_one, List.getElem?_eq_getElem h, Option.toList_some, List.foldl_append]
  rfl
theorem strW_length (W : List Nat) (rs : List (List Int)) : ∀ k, (strW W rs k).length = W.length := by
  intro k
  unfold strW
  generalize rs.take k = l
  induction l generalizing W with
  | nil => rfl
  | cons r l ih => rw [List.foldl_cons, ih]; unfold flipR; rw [flipW_length]
theorem strW_ok (W : List Nat) (hT : IsT W) (rs : List (List Int)) (hrs : ∀ r ∈ rs, ∃ a b, a < W.length ∧ b < W.length ∧ r = pair2 a b ∧ a ≠ b) : ∀ k, k ≤ rs.length → IsT (strW W rs k)
  | 0, _ => hT
  | k + 1, hk => by
    rw [strW_next W rs k (by omega)]
    obtain ⟨a, b, ha, hb, e, hab⟩ := hrs _ (List.getElem_mem (show k < rs.length by omega))
    rw [e, flipR_pair]
    exact flipW_ok _ (strW_ok W hT rs hrs k (by omega)) a b (by rw [strW_length]; exact ha) (by rw [strW_length]; exact hb) hab
theorem back_pairs (W : List Nat) (hT : IsT W) (os : List Int) : ∀ r ∈ backRows W os, ∃ a b, a < W.length ∧ b < W.length ∧ r = pair2 a b ∧ a ≠ b := by
  intro r hr
  obtain ⟨a, b, ha, hb, e, hf⟩ := prRows_mem _ _ _ hr
  refine ⟨a, b, ha, hb, e, ?_⟩
  rintro rfl
  unfold bkN at hf
  rw [hT.self] at hf
  simp at hf
def tStraightenBy (s : Int) (zs : List Int) (os : List Int) : Int := if rOrderOk s zs os then ((toW zs).length : Int) else 0
def rStraightenBy (s : Int) (zs : List Int) (os : List Int) : List Int := if rOrderOk s zs os then casts (strW (toW zs) (backRows (toW zs) os) (backRows (toW zs) os).length) else []
def bStraightenBy (s : Int) (zs : List Int) (os : List Int) : Bool := rOrderOk s zs os
theorem rStraightenBy_len (s : Int) (zs : List Int) (os : List Int) : (rStraightenBy s zs os).length ≤ 1048576 := by
  unfold rStraightenBy
  split
  · rename_i hok
    obtain ⟨ho, hol, hob⟩ := orderOk_facts hok
    obtain ⟨W, rfl, rfl, hT⟩ := ok_tour ho
    have := hT.h8
    rw [casts_length, strW_length, toW_casts]
    omega
  · simp
theorem ownT_at {w : World} {lo hi c : Nat} {A : Option Addr} {rs : List (List Int)} (h : OwnT w lo hi A c rs) {k : Nat} (hk : k < rs.length) :
    ∃ g A' c', A = some ⟨g, 0, none⟩ ∧ lo ≤ g ∧ g < hi ∧ w.cell? ⟨g, k, none⟩ = some (.slice A' rs[k].length c') ∧ Own w lo hi 3 A' c' (ints rs[k]) := by
  obtain ⟨hs, e, h1, h2⟩ := h
  obtain ⟨g, ea, h3, h4, hc, _⟩ := h1.at_ (k := k) (by rw [rowVs_length _ _ e]; exact hk)
  refine ⟨g, hs[k].1, hs[k].2, ea, h3, h4, ?_, h2.1 k (by omega) hk⟩
  rw [hc]
  have hg := rowVs_get hs rs k (by omega) hk
  rw [List.getElem?_eq_getElem (by rw [rowVs_length _ _ e]; exact hk)] at hg
  exact hg
/-- The boxes of StraightenBy: the tour so far, and the result's. -/
def StB (w : World) (W V : List Nat) (B : Option Addr) (d : Nat) (wr : World) : Prop :=
  ((wr.cell? ⟨w.heap.size, 0, none⟩ = some (.int .i64 (W.length : Int)) ∧ wr.cell? ⟨w.heap.size, 1, none⟩ = some (.slice B W.length d)) ∧ (wr.frozen? ⟨w.heap.size, 0, none⟩ = false ∧ wr.frozen? ⟨w.heap.size, 1, none⟩ = false)) ∧
  ((wr.cell? ⟨w.heap.size + 1, 0, none⟩ = some (.int .i64 0) ∧ wr.cell? ⟨w.heap.size + 1, 1, none⟩ = some (.slice none 0 0)) ∧ (wr.frozen? ⟨w.heap.size + 1, 0, none⟩ = false ∧ wr.frozen? ⟨w.heap.size + 1, 1, none⟩ = false)) ∧
  Row wr wr.heap.size B (ints (casts V)) ∧ Below w.heap.size w wr ∧ w.heap.size + 2 ≤ wr.heap.size
theorem StB.next {w wr wq : World} {W V : List Nat} {B : Option Addr} {d : Nat} (h : StB w W V B d wr) (hb : Below wr.heap.size wr wq) : StB w W V B d wq := by
  obtain ⟨⟨⟨k0, k1⟩, ⟨l0, l1⟩⟩, ⟨⟨j0, j1⟩, ⟨f0, f1⟩⟩, hr, hbw, hz⟩ := h
  exact ⟨res_keep k0 k1 l0 l1 hb, res_keep j0 j1 f0 f1 hb, hr.rowAt hb (Nat.le_refl _), below_trans hbw hb, Nat.le_trans hz hb.size⟩
theorem StB.put {w wr : World} {W V V' : List Nat} {B B' : Option Addr} {d d' lo c : Nat} (h : StB w W V B d wr) (ho : Own wr lo wr.heap.size 3 B' c (ints (casts V'))) (hlo : w.heap.size + 2 ≤ lo) :
    StB w W V' B' d' ((wr.setCell ⟨w.heap.size, 0, none⟩ (.int .i64 (W.length : Int))).setCell ⟨w.heap.size, 1, none⟩ (.slice B' W.length d')) := by
  obtain ⟨⟨⟨k0, k1⟩, ⟨l0, l1⟩⟩, ⟨⟨j0, j1⟩, ⟨f0, f1⟩⟩, hr, hbw, hz⟩ := h
  have ho2 := Own.setCell (Own.setCell ho (p := ⟨w.heap.size, 0, none⟩) (.inl (by show w.heap.size < _; omega)) (.int .i64 (W.length : Int))) (p := ⟨w.heap.size, 1, none⟩) (.inl (by show w.heap.size < _; omega)) (.slice B' W.length d')
  refine ⟨⟨⟨?_, ?_⟩, ⟨?_, ?_⟩⟩, ⟨⟨?_, ?_⟩, ⟨?_, ?_⟩⟩, ?_, ?_, ?_⟩
  · go_simp
  · go_simp
  · go_simp
  · go_simp
  · go_simp
  · go_simp
  · go_simp
  · go_simp
  · exact ho2.row.mono (by simp)
  · exact (hbw.setCell (p := ⟨w.heap.size, 0, none⟩) (Nat.le_refl _) _).setCell (p := ⟨w.heap.size, 1, none⟩) (Nat.le_refl _) _
  · simp; omega
end Go.Proofs.Ytkdfjkocfejfjaa
