/- All triangles: triangles, l04All, TrianglesOf, walked. -/
import Derived.Test.YtaocjjocncoahaaScore
import Derived.Test.YtaocjjocncoahaaTables
namespace Go.Proofs.Ytaocjjocncoahaa
open Go.RowKit

/-- Three players who beat each other in a ring, the least one ahead. -/
def triN (W : List Nat) (a b c : Nat) : Bool := decide (a < b) && decide (a < c) && bt W a b && bt W b c && bt W c a
def tri3 (a b c : Nat) : List Int := [(a : Int), b, c]
def trisC (W : List Nat) (a b k : Nat) : List (List Int) := ((List.range k).filter (triN W a b)).map (tri3 a b)
def trisB (W : List Nat) (a k : Nat) : List (List Int) := (List.range k).flatMap fun b => trisC W a b W.length
def trisA (W : List Nat) (k : Nat) : List (List Int) := (List.range k).flatMap fun a => trisB W a W.length
/-- What has been found when a, b, c are next. -/
def stT (W : List Nat) (a b c : Nat) : List (List Int) := trisA W a ++ trisB W a b ++ trisC W a b c
/-- All triangles, in lexicographic order. -/
def triRows (W : List Nat) : List (List Int) := trisA W W.length
theorem stT_zero (W : List Nat) : stT W 0 0 0 = [] := rfl
theorem trisC_zero (W : List Nat) (a b : Nat) : trisC W a b 0 = [] := rfl
theorem trisB_zero (W : List Nat) (a : Nat) : trisB W a 0 = [] := rfl
theorem stT_hit (W : List Nat) (a b c : Nat) (h : triN W a b c = true) : stT W a b (c + 1) = stT W a b c ++ [tri3 a b c] := by
  simp [stT, trisC, List.range_succ, List.filter_append, h]
theorem stT_miss (W : List Nat) (a b c : Nat) (h : triN W a b c = false) : stT W a b (c + 1) = stT W a b c := by
  simp [stT, trisC, List.range_succ, List.filter_append, h]
theorem stT_c (W : List Nat) (a b : Nat) : stT W a b W.length = stT W a (b + 1) 0 := by
  unfold stT
  rw [trisC_zero, List.append_nil, List.append_assoc]
  simp [trisB, List.range_succ]
theorem stT_b (W : List Nat) (a : Nat) : stT W a W.length 0 = stT W (a + 1) 0 0 := by
  unfold stT
  rw [trisC_zero, trisC_zero, trisB_zero, List.append_nil, List.append_nil, List.append_nil]
  simp [trisA, List.range_succ]
theorem stT_end (W : List Nat) : stT W W.length 0 0 = triRows W := by
  unfold stT
  rw [trisC_zero, trisB_zero, List.append_nil, List.append_nil]
  rfl
theorem trisC_none (W : List Nat) (a b k : Nat) (h : ∀ c, c < k → triN W a b c = false) : trisC W a b k = [] := by
  unfold trisC
  rw [List.map_eq_nil_iff, List.filter_eq_nil_iff]
  intro c hc
  rw [List.mem_range] at hc
  rw [h c hc]
  simp
theorem stT_skipB (W : List Nat) (a b : Nat) (h : b ≤ a + 1) : stT W a b 0 = stT W a 0 0 := by
  have : trisB W a b = [] := by
    unfold trisB
    rw [List.flatMap_eq_nil_iff]
    intro b' hb
    rw [List.mem_range] at hb
    refine trisC_none _ _ _ _ fun c _ => ?_
    unfold triN
    rw [decide_eq_false (show ¬ a < b' by omega)]
    rfl
  unfold stT
  rw [this, trisB_zero, trisC_zero, trisC_zero]
theorem stT_skipC (W : List Nat) (a b c : Nat) (h : c ≤ a + 1) : stT W a b c = stT W a b 0 := by
  have : trisC W a b c = [] := by
    refine trisC_none _ _ _ _ fun c' hc => ?_
    unfold triN
    rw [decide_eq_false (show ¬ a < c' by omega)]
    simp
  unfold stT
  rw [this, trisC_zero]
theorem trisC_le (W : List Nat) (a b k : Nat) : (trisC W a b k).length ≤ k := by
  unfold trisC
  rw [List.length_map]
  exact Nat.le_trans (List.length_filter_le _ _) (by simp)
theorem flat_le {f : Nat → List (List Int)} {m : Nat} (h : ∀ i, (f i).length ≤ m) (k : Nat) : ((List.range k).flatMap f).length ≤ m * k := by
  induction k with
  | zero => simp
  | succ k ih =>
    rw [List.range_succ, List.flatMap_append, List.length_append]
    have := h k
    simp only [List.flatMap_cons, List.flatMap_nil, List.append_nil]
    rw [Nat.mul_succ]
    omega
theorem stT_le (W : List Nat) (h8 : W.length ≤ 8) (a b c : Nat) (ha : a ≤ W.length) (hb : b ≤ W.length) (hc : c ≤ W.length) : (stT W a b c).length ≤ 1000 := by
  have h1 := trisC_le W a b c
  have h2 : (trisB W a b).length ≤ 8 * b := flat_le (fun i => Nat.le_trans (trisC_le W a i W.length) h8) b
  have h3 : (trisA W a).length ≤ 64 * a := flat_le (fun i => Nat.le_trans (flat_le (fun j => Nat.le_trans (trisC_le W i j W.length) h8) W.length) (by omega)) a
  unfold stT
  simp only [List.length_append]
  omega
theorem triRows_le (W : List Nat) (h8 : W.length ≤ 8) : (triRows W).length ≤ 1000 := by
  rw [← stT_end]
  exact stT_le W h8 _ _ _ (Nat.le_refl _) (by omega) (by omega)
theorem triRows_mem (W : List Nat) (r : List Int) (h : r ∈ triRows W) : ∃ a b c, a < W.length ∧ b < W.length ∧ c < W.length ∧ r = tri3 a b c ∧ triN W a b c = true := by
  unfold triRows trisA trisB trisC at h
  simp only [List.mem_flatMap, List.mem_range, List.mem_map, List.mem_filter] at h
  obtain ⟨a, ha, b, hb, c, ⟨hc, ht⟩, rfl⟩ := h
  exact ⟨a, b, c, ha, hb, hc, rfl, ht⟩
theorem total_le3 (rs : List (List Int)) (m : Nat) (h : ∀ r ∈ rs, r.length ≤ m) : total rs ≤ m * rs.length := by
  induction rs with
  | nil => simp [total]
  | cons r rs ih =>
    have h1 := h r (by simp)
    have h2 := ih (fun x hx => h x (by simp [hx]))
    simp only [total, List.length_cons, Nat.mul_succ]
    omega
theorem triRows_len3 (W : List Nat) (r : List Int) (h : r ∈ triRows W) : r.length ≤ 3 := by
  obtain ⟨a, b, c, _, _, _, rfl, _⟩ := triRows_mem W r h
  simp [tri3]
theorem triB_triN (W : List Nat) (i j k : Nat) (hi : i < W.length) (hj : j < W.length) (hk : k < W.length) : triB W (tri3 i j k) = triN W i j k := triB_nat W i j k hi hj hk

theorem heldB {w1 wr : World} {m b : Nat} {v0 v1 : Value} (k0 : w1.cell? ⟨b, 0, none⟩ = some v0) (k1 : w1.cell? ⟨b, 1, none⟩ = some v1) (hb : Below m w1 wr) (hm : b < m) :
    wr.cell? ⟨b, 0, none⟩ = some v0 ∧ wr.cell? ⟨b, 1, none⟩ = some v1 := ⟨(hb.cell (p := ⟨b, 0, none⟩) hm).trans k0, (hb.cell (p := ⟨b, 1, none⟩) hm).trans k1⟩
theorem belowB {w1 wr v : World} {m : Nat} (hb : Below m w1 wr) (hm : m ≤ w1.heap.size) (hv : Below wr.heap.size wr v) : Below m w1 v := hb.trans (hv.mono (Nat.le_trans hm hb.size))
theorem rowB {w1 wr : World} {m : Nat} {A : Option Addr} {vs : List Value} (h : Row w1 m A vs) (hb : Below m w1 wr) (hm : m ≤ w1.heap.size) : Row wr wr.heap.size A vs := (h.below hb (Nat.le_refl _)).mono (Nat.le_trans hm hb.size)
/-- What both functions TrianglesOf answer. -/
def rTrianglesOf (s : Int) (zs : List Int) : List (List Int) := if okB s zs then triRows (toW zs) else []
theorem rTrianglesOf_len (s : Int) (zs : List Int) : (rTrianglesOf s zs).length ≤ 1000 ∧ (∀ r ∈ rTrianglesOf s zs, r.length ≤ 1099511627776) ∧ total (rTrianglesOf s zs) ≤ 1000000 := by
  unfold rTrianglesOf
  split
  · rename_i h
    obtain ⟨W, rfl, rfl, hT⟩ := ok_tour h
    rw [toW_casts]
    have h1 := triRows_le W hT.h8
    have h2 := total_le3 (triRows W) 3 (triRows_len3 W)
    exact ⟨h1, fun r hr => Nat.le_trans (triRows_len3 W r hr) (by omega), by omega⟩
  · simp [total]
end Go.Proofs.Ytaocjjocncoahaa
