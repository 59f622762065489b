/- Games against an order: backGames, l08Count, CountReversals, walked. -/
import Derived.Test.YtaocjjocncoahaaOrd
import Derived.Test.YtaocjjocncoahaaScore
import Derived.Test.YtaocjjocncoahaaTables
import Derived.Test.YtaocjjocncoahaaTriang
namespace Go.Proofs.Ytaocjjocncoahaa
open Go.RowKit

/-! ### Rows of pairs -/
def pair2 (a b : Nat) : List Int := [(a : Int), b]
def prC (f : Nat → Nat → Bool) (a k : Nat) : List (List Int) := ((List.range k).filter (f a)).map (pair2 a)
def prA (n : Nat) (f : Nat → Nat → Bool) (k : Nat) : List (List Int) := (List.range k).flatMap fun a => prC f a n
/-- What has been found when a, b are next. -/
def stP (n : Nat) (f : Nat → Nat → Bool) (a b : Nat) : List (List Int) := prA n f a ++ prC f a b
/-- All pairs with f, in lexicographic order. -/
def prRows (n : Nat) (f : Nat → Nat → Bool) : List (List Int) := prA n f n
theorem prC_zero (f : Nat → Nat → Bool) (a : Nat) : prC f a 0 = [] := rfl
theorem stP_zero (n : Nat) (f : Nat → Nat → Bool) : stP n f 0 0 = [] := rfl
theorem stP_hit (n : Nat) (f : Nat → Nat → Bool) (a b : Nat) (h : f a b = true) : stP n f a (b + 1) = stP n f a b ++ [pair2 a b] := by
  simp [stP, prC, List.range_succ, List.filter_append, h]
theorem stP_miss (n : Nat) (f : Nat → Nat → Bool) (a b : Nat) (h : f a b = false) : stP n f a (b + 1) = stP n f a b := by
  simp [stP, prC, List.range_succ, List.filter_append, h]
theorem stP_b (n : Nat) (f : Nat → Nat → Bool) (a : Nat) : stP n f a n = stP n f (a + 1) 0 := by
  unfold stP
  rw [prC_zero, List.append_nil]
  simp [prA, List.range_succ]
theorem stP_end (n : Nat) (f : Nat → Nat → Bool) : stP n f n 0 = prRows n f := by
  unfold stP
  rw [prC_zero, List.append_nil]
  rfl
theorem prC_le (f : Nat → Nat → Bool) (a k : Nat) : (prC f a k).length ≤ k := by
  unfold prC
  rw [List.length_map]
  exact Nat.le_trans (List.length_filter_le _ _) (by simp)
theorem stP_le (n : Nat) (f : Nat → Nat → Bool) (h8 : n ≤ 8) (a b : Nat) (ha : a ≤ n) (hb : b ≤ n) : (stP n f a b).length ≤ 100 := by
  have h1 := prC_le f a b
  have h2 : (prA n f a).length ≤ 8 * a := flat_le (fun i => Nat.le_trans (prC_le f i n) h8) a
  unfold stP
  simp only [List.length_append]
  omega
theorem prRows_le (n : Nat) (f : Nat → Nat → Bool) (h8 : n ≤ 8) : (prRows n f).length ≤ 100 := by
  rw [← stP_end]
  exact stP_le n f h8 _ _ (Nat.le_refl _) (by omega)
theorem prRows_mem (n : Nat) (f : Nat → Nat → Bool) (r : List Int) (h : r ∈ prRows n f) : ∃ a b, a < n ∧ b < n ∧ r = pair2 a b ∧ f a b = true := by
  unfold prRows prA prC at h
  simp only [List.mem_flatMap, List.mem_range, List.mem_map, List.mem_filter] at h
  obtain ⟨a, ha, b, ⟨hb, ht⟩, rfl⟩ := h
  exact ⟨a, b, ha, hb, rfl, ht⟩
theorem prRows_len (n : Nat) (f : Nat → Nat → Bool) (r : List Int) (h : r ∈ prRows n f) : r.length ≤ 2 := by
  obtain ⟨a, b, _, _, rfl, _⟩ := prRows_mem n f r h
  simp [pair2]
theorem prRows_congr (n : Nat) (f g : Nat → Nat → Bool) (h : ∀ a b, a < n → b < n → f a b = g a b) : prRows n f = prRows n g := by
  unfold prRows prA prC
  have : ∀ (l : List Nat), (∀ a ∈ l, a < n) → (l.flatMap fun a => ((List.range n).filter (f a)).map (pair2 a)) = l.flatMap fun a => ((List.range n).filter (g a)).map (pair2 a) := by
    intro l hl
    induction l with
    | nil => rfl
    | cons a l ih =>
      simp only [List.flatMap_cons]
      rw [ih (fun x hx => hl x (by simp [hx])), List.filter_congr (fun b hb => h a b (hl a (by simp)) (by rwa [List.mem_range] at hb))]
  exact this _ (fun a ha => by rwa [List.mem_range] at ha)
/-- How many pairs. -/
theorem prRows_length (n : Nat) (f : Nat → Nat → Bool) : (prRows n f).length = ((List.range n).map fun a => ((List.range n).map fun b => if f a b then 1 else 0).sum).sum := by
  unfold prRows prA
  rw [List.length_flatMap]
  congr 1
  refine List.map_congr_left fun a _ => ?_
  unfold prC
  rw [List.length_map]
  generalize List.range n = l
  induction l with
  | nil => rfl
  | cons b l ih =>
    rw [List.filter_cons]
    simp only [List.map_cons, List.sum_cons, ← ih]
    cases f a b <;> simp
    omega

/-! ### Games against an order -/
def posI (os : List Int) (a : Nat) : Int := idxOf (fun y => (a : Int) == y) os
/-- a beats b, who stands ahead of a. -/
def bkN (W : List Nat) (os : List Int) (a b : Nat) : Bool := bt W a b && decide (posI os b < posI os a)
def backRows (W : List Nat) (os : List Int) : List (List Int) := prRows W.length (bkN W os)

/-! ### Counting reversals along the order -/
/-- Order entry i. -/
def atN (os : List Int) (i : Nat) : Nat := (os.getD i 0).toNat
def rvN (W : List Nat) (os : List Int) (i j : Nat) : Nat := if bt W (atN os j) (atN os i) then 1 else 0
/-- Reversals of entry i with entries i + 1 .. i + k. -/
def rvC (W : List Nat) (os : List Int) (i k : Nat) : Nat := ((List.range k).map fun j => rvN W os i (i + 1 + j)).sum
def rvA (W : List Nat) (os : List Int) (i : Nat) : Nat := ((List.range i).map fun i' => rvC W os i' (os.length - (i' + 1))).sum
def revs (W : List Nat) (os : List Int) : Nat := rvA W os os.length
theorem rvN_le (W : List Nat) (os : List Int) (i j : Nat) : rvN W os i j ≤ 1 := by unfold rvN; split <;> omega
theorem rvC_succ (W : List Nat) (os : List Int) (i k : Nat) : rvC W os i (k + 1) = rvC W os i k + rvN W os i (i + 1 + k) := by simp [rvC, List.range_succ]
theorem rvA_succ (W : List Nat) (os : List Int) (i : Nat) : rvA W os (i + 1) = rvA W os i + rvC W os i (os.length - (i + 1)) := by simp [rvA, List.range_succ]
theorem rvC_le (W : List Nat) (os : List Int) (i k : Nat) : rvC W os i k ≤ k := by
  induction k with
  | zero => simp [rvC]
  | succ k ih => rw [rvC_succ]; have := rvN_le W os i (i + 1 + k); omega
theorem rvA_le (W : List Nat) (os : List Int) (h8 : os.length ≤ 8) (i : Nat) : rvA W os i ≤ 8 * i := by
  induction i with
  | zero => simp [rvA]
  | succ i ih => rw [rvA_succ]; have := rvC_le W os i (os.length - (i + 1)); omega

/-! ### The two counts are one -/
theorem nodup_perm {α : Type} [DecidableEq α] : ∀ (l m : List α), l.Nodup → (∀ x ∈ l, x ∈ m) → m.length ≤ l.length → l.Perm m := by
  intro l
  induction l with
  | nil => intro m _ _ hl; have : m = [] := List.eq_nil_of_length_eq_zero (by simpa using hl); subst this; exact List.Perm.nil
  | cons a l ih =>
    intro m hn hs hl
    have ha := hs a (by simp)
    rw [List.nodup_cons] at hn
    have h1 : l.Perm (m.erase a) := by
      refine ih _ hn.2 (fun x hx => ?_) ?_
      · have hne : x ≠ a := fun e => by subst e; exact hn.1 hx
        exact (List.mem_erase_of_ne hne).2 (hs x (by simp [hx]))
      · rw [List.length_erase_of_mem ha]
        simp at hl
        omega
    exact (List.Perm.cons a h1).trans (List.perm_cons_erase ha).symm
theorem orderB_facts (os : List Int) (h : orderB os = true) : (∀ i (hi : i < os.length), 0 ≤ os[i] ∧ os[i] < (os.length : Int)) ∧ os.Nodup := by
  unfold orderB at h
  rw [List.all_eq_true] at h
  have hp : ∀ i (hi : i < os.length), (0 ≤ os[i] ∧ os[i] < (os.length : Int)) ∧ ∀ j (hj : j < i), os[i] ≠ os[j] := by
    intro i hi
    have := h i (by rwa [List.mem_range])
    rw [permAt_eq os i hi] at this
    simp only [Bool.and_eq_true, decide_eq_true_eq, Bool.not_eq_true', List.any_eq_false, beq_iff_eq] at this
    obtain ⟨⟨h1, h2⟩, h3⟩ := this
    refine ⟨⟨h1, by omega⟩, fun j hj => h3 _ ?_⟩
    rw [List.mem_take_iff_getElem]
    exact ⟨j, by omega, rfl⟩
  refine ⟨fun i hi => (hp i hi).1, ?_⟩
  rw [List.nodup_iff_pairwise_ne, List.pairwise_iff_getElem]
  intro i j hi hj hij
  exact fun e => (hp j hj).2 i hij e.symm
/-- The order as natural numbers. -/
def natL (os : List Int) : List Nat := os.map Int.toNat
theorem order_perm (os : List Int) (h : orderB os = true) : (natL os).Perm (List.range os.length) := by
  obtain ⟨h1, h2⟩ := orderB_facts os h
  refine nodup_perm _ _ ?_ ?_ (by simp [natL])
  · unfold natL
    rw [List.nodup_iff_pairwise_ne, List.pairwise_iff_getElem] at h2 ⊢
    intro i j hi hj hij e
    simp only [List.length_map] at hi hj
    simp only [List.getElem_map] at e
    exact h2 i j hi hj hij (by have := h1 i hi; have := h1 j hj; omega)
  · intro x hx
    unfold natL at hx
    rw [List.mem_map] at hx
    obtain ⟨z, hz, rfl⟩ := hx
    obtain ⟨i, hi, rfl⟩ := List.mem_iff_getElem.1 hz
    have := h1 i hi
    rw [List.mem_range]
    omega
theorem posI_at (os : List Int) (h : orderB os = true) (i : Nat) (hi : i < os.length) : posI os (atN os i) = (i : Int) := by
  obtain ⟨h1, h2⟩ := orderB_facts os h
  have e : ((atN os i : Nat) : Int) = os[i] := by unfold atN; rw [getD_lt _ _ _ hi]; have := h1 i hi; omega
  unfold posI
  rw [e]
  refine idxOf_hit _ _ i hi (by simp) (fun j hj => ?_)
  rw [List.nodup_iff_pairwise_ne, List.pairwise_iff_getElem] at h2
  have := h2 j i (by omega) hi hj
  simp
  exact fun e => this e.symm
theorem perm_sum (l m : List Nat) (h : l.Perm m) : l.sum = m.sum := by
  induction h with
  | nil => rfl
  | cons a _ ih => simp [ih]
  | swap a b l => simp; omega
  | trans _ _ ih1 ih2 => exact ih1.trans ih2
theorem sum_reorder (os : List Int) (h : orderB os = true) (g : Nat → Nat) : ((List.range os.length).map g).sum = ((List.range os.length).map fun i => g (atN os i)).sum := by
  have hp := (order_perm os h).map g
  rw [perm_sum _ _ hp.symm]
  congr 1
  apply List.ext_getElem
  · simp [natL]
  · intro i h1 h2
    simp only [List.length_map, natL] at h1
    simp only [natL, List.map_map, List.getElem_map, List.getElem_range, Function.comp]
    unfold atN
    rw [getD_lt _ _ _ h1]
theorem sum_split (g : Nat → Nat → Nat) (n : Nat) : ∀ (i : Nat), i < n → (∀ j, j ≤ i → g i j = 0) → ((List.range n).map (g i)).sum = ((List.range (n - (i + 1))).map fun j => g i (i + 1 + j)).sum := by
  intro i hi hz
  have e : List.range n = List.range (i + 1) ++ (List.range (n - (i + 1))).map (fun j => i + 1 + j) := by
    rw [← List.range_add, show i + 1 + (n - (i + 1)) = n by omega]
  rw [e, List.map_append, List.sum_append]
  have h0 : ((List.range (i + 1)).map (g i)).sum = 0 := by
    rw [List.map_congr_left (g := fun _ => 0) (fun j hj => hz j (by rw [List.mem_range] at hj; omega))]
    generalize List.range (i + 1) = l
    induction l with
    | nil => rfl
    | cons x xs ih => simpa using ih
  rw [h0, Nat.zero_add, List.map_map]
  rfl
theorem sum_swap (g : Nat → Nat → Nat) (n m : Nat) : ((List.range n).map fun i => ((List.range m).map fun j => g i j).sum).sum = ((List.range m).map fun j => ((List.range n).map fun i => g i j).sum).sum := by
  induction n with
  | zero =>
    simp only [List.range_zero, List.map_nil, List.sum_nil]
    generalize List.range m = l
    induction l with
    | nil => rfl
    | cons x xs ih => simpa using ih
  | succ n ih =>
    simp only [List.range_succ, List.map_append, List.sum_append, List.map_cons, List.map_nil, List.sum_cons, List.sum_nil, Nat.add_zero, ih]
    generalize List.range m = l
    induction l with
    | nil => rfl
    | cons x xs ih2 => simp only [List.map_cons, List.sum_cons]; omega
/-- Games against an order, counted either way. -/
theorem back_count (W : List Nat) (os : List Int) (hl : os.length = W.length) (h : orderB os = true) : (backRows W os).length = revs W os := by
  unfold backRows
  rw [prRows_length, ← hl]
  rw [sum_reorder os h]
  have h1 : ∀ i, i < os.length → ((List.range os.length).map fun b => if bkN W os (atN os i) b then 1 else 0).sum = ((List.range os.length).map fun j => if bkN W os (atN os i) (atN os j) then 1 else 0).sum := fun i _ => sum_reorder os h _
  rw [List.map_congr_left (fun i hi => h1 i (by rwa [List.mem_range] at hi))]
  rw [sum_swap]
  unfold revs rvA
  congr 1
  refine List.map_congr_left fun j hj => ?_
  rw [List.mem_range] at hj
  have h2 : ((List.range os.length).map fun i => if bkN W os (atN os i) (atN os j) then 1 else 0) = (List.range os.length).map fun i => (fun (j i : Nat) => if j < i then rvN W os j i else 0) j i := by
    refine List.map_congr_left fun i hi => ?_
    rw [List.mem_range] at hi
    unfold bkN rvN
    rw [posI_at os h i hi, posI_at os h j hj]
    by_cases hij : j < i
    · simp [hij]
    · simp [hij]
  rw [h2, sum_split (fun (j i : Nat) => if j < i then rvN W os j i else 0) os.length j hj (fun i hi => by simp; omega)]
  unfold rvC
  congr 1
  refine List.map_congr_left fun i _ => ?_
  rw [if_pos (by omega)]

/-- What both functions CountReversals answer. -/
def rCountReversals (s : Int) (zs : List Int) (os : List Int) : Int := if rOrderOk s zs os then ((backRows (toW zs) os).length : Nat) else -1
theorem orderOk_facts {s : Int} {zs os : List Int} (h : rOrderOk s zs os = true) : okB s zs = true ∧ os.length = (toW zs).length ∧ orderB os = true := by
  unfold rOrderOk at h
  split at h
  · rename_i h1
    rw [Bool.and_eq_true, decide_eq_true_eq] at h
    exact ⟨h1, h⟩
  · cases h
end Go.Proofs.Ytaocjjocncoahaa
