/- Scores: score, l02Scores, and the functions on them: SumOfSquares, CountTriangles, SovereignOf, ScoresOf. -/
import Derived.Test.YtliimojaoegdhaaDoorTri
import Derived.Test.YtliimojaoegdhaaDoorOnes
import Derived.Test.YtliimojaoegdhaaDoorChoose
namespace Go.Proofs.YtliimojaoegdhaaDoor
open Go.RowKit

/-- The score of a player. -/
def sc (W : List Nat) (a : Nat) : Nat := pc 8 (W.getD a 0)
/-- All scores. -/
def scL (W : List Nat) : List Nat := W.map (pc 8)
theorem scL_length (W : List Nat) : (scL W).length = W.length := by simp [scL]
theorem scL_get (W : List Nat) (a : Nat) (h : a < (scL W).length) : (scL W)[a] = sc W a := by
  rw [scL_length] at h
  unfold sc
  rw [getD_lt _ _ _ h]
  simp [scL]
theorem sc_of (W : List Nat) {a : Nat} (h : a < W.length) : sc W a = pc 8 W[a] := by unfold sc; rw [getD_lt _ _ _ h]
theorem sc_le (W : List Nat) (a : Nat) : sc W a ≤ 8 := pc_le 8 _
theorem scL_take (W : List Nat) (k : Nat) (h : k < W.length) : (scL W).take (k + 1) = (scL W).take k ++ [sc W k] := by
  rw [List.take_succ_eq_append_getElem (by rwa [scL_length]), scL_get]
/-- The sum of the first k numbers. -/
def sumF (f : Nat → Int) : Nat → Int
  | 0 => 0
  | k + 1 => sumF f k + f k
theorem sumF_bd (f : Nat → Int) (m : Int) (h : ∀ i, 0 ≤ f i ∧ f i ≤ m) (k : Nat) : 0 ≤ sumF f k ∧ sumF f k ≤ m * (k : Int) := by
  induction k with
  | zero => simp [sumF]
  | succ k ih =>
    have := h k
    have e : m * ((k + 1 : Nat) : Int) = m * (k : Int) + m := by rw [Int.natCast_add, Int.mul_add]; simp
    unfold sumF
    rw [e]
    omega


/-- A box and what lies below it, over a further call. -/
theorem held_next {w1 wr wq : World} {b : Nat} {v0 v1 : Value} (k0 : w1.cell? ⟨b, 0, none⟩ = some v0) (k1 : w1.cell? ⟨b, 1, none⟩ = some v1) (hb : Below w1.heap.size w1 wr) (hq : Below wr.heap.size wr wq) :
    Below w1.heap.size w1 wq ∧ wq.cell? ⟨b, 0, none⟩ = some v0 ∧ wq.cell? ⟨b, 1, none⟩ = some v1 := by
  have hn := below_trans hb hq
  have hl := World.block_lt_of_cell? w1 _ k0
  exact ⟨hn, (hn.cell (p := ⟨b, 0, none⟩) hl).trans k0, (hn.cell (p := ⟨b, 1, none⟩) hl).trans k1⟩
theorem held_at {w1 wr : World} {b : Nat} {v0 v1 : Value} (k0 : w1.cell? ⟨b, 0, none⟩ = some v0) (k1 : w1.cell? ⟨b, 1, none⟩ = some v1) (hb : Below w1.heap.size w1 wr) :
    wr.cell? ⟨b, 0, none⟩ = some v0 ∧ wr.cell? ⟨b, 1, none⟩ = some v1 := by
  have hl := World.block_lt_of_cell? w1 _ k0
  exact ⟨(hb.cell (p := ⟨b, 0, none⟩) hl).trans k0, (hb.cell (p := ⟨b, 1, none⟩) hl).trans k1⟩


/-- What both functions SumOfSquares answer. -/
def sqs (W : List Nat) (k : Nat) : Int := sumF (fun a => (sc W a : Int) * (sc W a : Int)) k
theorem sqs_bd (W : List Nat) (k : Nat) : 0 ≤ sqs W k ∧ sqs W k ≤ 64 * (k : Int) := by
  refine sumF_bd _ 64 (fun i => ?_) k
  have h := sc_le W i
  have e : (sc W i : Int) * (sc W i : Int) = ((sc W i * sc W i : Nat) : Int) := by simp
  have := Nat.mul_le_mul h h
  rw [e]
  omega
def rSumOfSquares (s : Int) (zs : List Int) : Int := if okB s zs then sqs (toW zs) (toW zs).length else -1


/-- What both functions CountTriangles answer. -/
def tris (W : List Nat) (k : Nat) : Int := sumF (fun a => (choose2 (sc W a) : Nat)) k
theorem tris_bd (W : List Nat) (k : Nat) : 0 ≤ tris W k ∧ tris W k ≤ 28 * (k : Int) := by
  refine sumF_bd _ 28 (fun i => ?_) k
  have := choose2_le (sc W i) (sc_le W i)
  omega
def rCountTriangles (s : Int) (zs : List Int) : Int := if okB s zs then (choose3 (toW zs).length : Nat) - tris (toW zs) (toW zs).length else -1

theorem ch3_steps (n : Nat) (h1 : 1 ≤ n) (h8 : n ≤ 8) : IntKind.i64.wrap ((n : Int) * ((n : Int) - 1)) = (n : Int) * ((n : Int) - 1) ∧ IntKind.i64.wrap ((n : Int) * ((n : Int) - 1) * ((n : Int) - 2)) = (n : Int) * ((n : Int) - 1) * ((n : Int) - 2) ∧ 0 ≤ (n : Int) * ((n : Int) - 1) * ((n : Int) - 2) ∧ (n : Int) * ((n : Int) - 1) * ((n : Int) - 2) / 6 = (choose3 n : Nat) := by
  have h : n = 1 ∨ n = 2 ∨ n = 3 ∨ n = 4 ∨ n = 5 ∨ n = 6 ∨ n = 7 ∨ n = 8 := by omega
  rcases h with rfl | rfl | rfl | rfl | rfl | rfl | rfl | rfl <;> decide
theorem ch2_steps (n : Nat) (h8 : n ≤ 8) : IntKind.i64.wrap ((n : Int) * ((n : Int) - 1)) = (n : Int) * ((n : Int) - 1) ∧ 0 ≤ (n : Int) * ((n : Int) - 1) ∧ (n : Int) * ((n : Int) - 1) / 2 = (choose2 n : Nat) := by
  have h : n = 0 ∨ n = 1 ∨ n = 2 ∨ n = 3 ∨ n = 4 ∨ n = 5 ∨ n = 6 ∨ n = 7 ∨ n = 8 := by omega
  rcases h with rfl | rfl | rfl | rfl | rfl | rfl | rfl | rfl | rfl <;> decide


/-- What both functions ScoresOf answer. -/
def rScoresOf (s : Int) (zs : List Int) : List Int := if okB s zs then casts (scL (toW zs)) else []
theorem rScoresOf_len (s : Int) (zs : List Int) : (rScoresOf s zs).length ≤ 1099511627776 := by
  unfold rScoresOf
  split
  · rename_i h
    obtain ⟨W, rfl, rfl, hT⟩ := ok_tour h
    have := hT.h8
    rw [casts_length, toW_casts, scL_length]
    omega
  · simp
theorem newInts_none {w w' : World} (t : TypeId) {zs : List Int} (e : zs = []) (h : Below w.heap.size w w') : NewInts w t zs (.returned (.slice none 0 0)) w' := by
  subst e
  exact ⟨none, 0, rfl, Own.nil _ _ _ _, h⟩

theorem idxOf_same (p q : Int → Bool) (xs ys : List Int) (hl : xs.length = ys.length) (h : ∀ i (h1 : i < xs.length) (h2 : i < ys.length), p xs[i] = q ys[i]) : idxOf p xs = idxOf q ys := by
  by_cases hx : ∃ k, ∃ hk : k < ys.length, q ys[k] = true ∧ ∀ j (hj : j < k), q ys[j] = false
  · obtain ⟨k, hk, h1, h2⟩ := hx
    rw [idxOf_hit q ys k hk h1 h2]
    exact idxOf_hit p xs k (by omega) (by rw [h k (by omega) hk]; exact h1) (fun j hj => by rw [h j (by omega) (by omega)]; exact h2 j hj)
  · have hn : ∀ j (hj : j < ys.length), q ys[j] = false := by
      intro j
      induction j using Nat.strongRecOn with
      | _ j ih =>
        intro hj
        cases hq : q ys[j] with
        | false => rfl
        | true => exact absurd ⟨j, hj, hq, fun i hi => ih i hi (by omega)⟩ hx
    rw [idxOf_miss q ys hn]
    exact idxOf_miss p xs (fun j hj => by rw [h j hj (by omega)]; exact hn j (by omega))
/-- What both functions SovereignOf answer. -/
def sovOf (W : List Nat) : Int := idxOf (fun x => x == (W.length : Int) - 1) (casts (scL W))
def rSovereignOf (s : Int) (zs : List Int) : Int := if okB s zs then sovOf (toW zs) else -1
end Go.Proofs.YtliimojaoegdhaaDoor
