/- Sorting: plain laws. No program. -/
import Derived.Test.YtaocjjocncoahaaLib
namespace Go.Proofs.Ytaocjjocncoahaa
open Go.RowKit

/-- The place of x in a sorted list, sought from k down. -/
def posD (out : List Int) (x : Int) : Nat → Nat
  | 0 => 0
  | k + 1 => if x < out.getD k 0 then posD out x k else k + 1
theorem posD_le (out : List Int) (x : Int) (k : Nat) : posD out x k ≤ k := by
  induction k with
  | zero => exact Nat.le_refl _
  | succ k ih => unfold posD; split <;> omega
def posL (out : List Int) (x : Int) : Nat := posD out x out.length
theorem posL_le (out : List Int) (x : Int) : posL out x ≤ out.length := posD_le _ _ _
theorem posD_hi (out : List Int) (x : Int) (k : Nat) : ∀ i, posD out x k ≤ i → i < k → x < out.getD i 0 := by
  induction k with
  | zero => intro i _ h; omega
  | succ k ih =>
    intro i h1 h2
    unfold posD at h1
    split at h1
    · by_cases e : i = k
      · subst e; assumption
      · exact ih i h1 (by omega)
    · omega
theorem posD_lo (out : List Int) (x : Int) (k : Nat) (h : 0 < posD out x k) : out.getD (posD out x k - 1) 0 ≤ x := by
  induction k with
  | zero => simp [posD] at h
  | succ k ih =>
    unfold posD at h ⊢
    split
    · rename_i hx
      rw [if_pos hx] at h
      exact ih h
    · rename_i hx
      simpa using hx
/-- x put into a sorted list behind all that are not greater. -/
def insL (x : Int) (out : List Int) : List Int := out.take (posL out x) ++ x :: out.drop (posL out x)
theorem insL_length (x : Int) (out : List Int) : (insL x out).length = out.length + 1 := by
  have := posL_le out x
  simp [insL]; omega
theorem insL_perm (x : Int) (out : List Int) : (insL x out).Perm (x :: out) := by
  have h := List.perm_middle (a := x) (l₁ := out.take (posL out x)) (l₂ := out.drop (posL out x))
  rw [List.take_append_drop] at h
  exact h
def Asc (l : List Int) : Prop := l.Pairwise (· ≤ ·)
theorem asc_getD {l : List Int} (h : Asc l) {i j : Nat} (hij : i ≤ j) (hj : j < l.length) : l.getD i 0 ≤ l.getD j 0 := by
  by_cases e : i = j
  · subst e; exact Int.le_refl _
  · rw [getD_lt _ _ _ hj, getD_lt _ _ _ (show i < l.length by omega)]
    exact (List.pairwise_iff_getElem.1 h) i j (by omega) hj (by omega)
theorem insL_asc (x : Int) (out : List Int) (h : Asc out) : Asc (insL x out) := by
  unfold insL Asc
  rw [List.pairwise_append, List.pairwise_cons]
  have h1 : ∀ a ∈ out.take (posL out x), a ≤ x := by
    intro a ha
    obtain ⟨i, hi, e⟩ := List.mem_iff_getElem.1 ha
    have hlt : i < posL out x ∧ i < out.length := by
      rw [List.length_take] at hi
      omega
    have hp := posD_lo out x out.length (show 0 < posL out x by omega)
    have hle := posL_le out x
    have := asc_getD h (i := i) (j := posL out x - 1) (by omega) (by omega)
    rw [List.getElem_take] at e
    rw [getD_lt _ _ _ hlt.2, e] at this
    exact Int.le_trans this hp
  have h2 : ∀ a ∈ out.drop (posL out x), x ≤ a := by
    intro a ha
    obtain ⟨i, hi, e⟩ := List.mem_iff_getElem.1 ha
    rw [List.length_drop] at hi
    have := posD_hi out x out.length (posL out x + i) (Nat.le_add_right _ _) (by omega)
    rw [List.getElem_drop] at e
    rw [getD_lt _ _ _ (by omega), e] at this
    omega
  refine ⟨List.Pairwise.sublist (List.take_sublist _ _) h, ⟨h2, List.Pairwise.sublist (List.drop_sublist _ _) h⟩, ?_⟩
  intro a ha b hb
  rcases List.mem_cons.1 hb with e | hb
  · subst e; exact h1 a ha
  · exact Int.le_trans (h1 a ha) (h2 b hb)
/-- The first k numbers, sorted. -/
def sortK (zs : List Int) : Nat → List Int
  | 0 => []
  | k + 1 => insL (zs.getD k 0) (sortK zs k)
def sortL (zs : List Int) : List Int := sortK zs zs.length
theorem sortK_length (zs : List Int) (k : Nat) : (sortK zs k).length = k := by
  induction k with
  | zero => rfl
  | succ k ih => rw [sortK, insL_length, ih]
theorem sortL_length (zs : List Int) : (sortL zs).length = zs.length := sortK_length _ _
theorem sortK_asc (zs : List Int) (k : Nat) : Asc (sortK zs k) := by
  induction k with
  | zero => exact List.Pairwise.nil
  | succ k ih => exact insL_asc _ _ ih
theorem sortK_perm (zs : List Int) (k : Nat) (h : k ≤ zs.length) : (sortK zs k).Perm (zs.take k) := by
  induction k with
  | zero => simp [sortK]
  | succ k ih =>
    rw [sortK, List.take_succ_eq_append_getElem (by omega), getD_lt _ _ _ (by omega)]
    refine (insL_perm _ _).trans ?_
    refine ((ih (by omega)).cons _).trans ?_
    exact List.perm_append_comm (l₁ := [zs[k]]) (l₂ := zs.take k)
theorem sortL_asc (zs : List Int) : Asc (sortL zs) := sortK_asc _ _
theorem sortL_perm (zs : List Int) : (sortL zs).Perm zs := by
  have := sortK_perm zs zs.length (Nat.le_refl _)
  rwa [List.take_length] at this
theorem asc_unique : ∀ (a b : List Int), Asc a → Asc b → a.Perm b → a = b
  | [], b, _, _, hp => hp.nil_eq
  | x :: a, b, ha, hb, hp => by
    cases b with
    | nil => exact absurd hp.symm.nil_eq (by simp)
    | cons y b =>
      have h1 := List.pairwise_cons.1 ha
      have h2 := List.pairwise_cons.1 hb
      have hx : x ≤ y := by
        rcases List.mem_cons.1 (hp.mem_iff.2 (List.mem_cons_self (a := y) (l := b))) with e | hm
        · omega
        · exact h1.1 y hm
      have hy : y ≤ x := by
        rcases List.mem_cons.1 (hp.mem_iff.1 (List.mem_cons_self (a := x) (l := a))) with e | hm
        · omega
        · exact h2.1 x hm
      have e : x = y := by omega
      subst e
      rw [asc_unique a b h1.2 h2.2 (List.Perm.cons_inv hp)]
theorem sorted_is {a zs : List Int} (h : Asc a) (hp : a.Perm zs) : a = sortL zs := asc_unique _ _ h (sortL_asc zs) (hp.trans (sortL_perm zs).symm)
/-- The greatest of the first k + 1 numbers. -/
def maxL (zs : List Int) : Nat → Int
  | 0 => zs.getD 0 0
  | k + 1 => max (maxL zs k) (zs.getD (k + 1) 0)
theorem maxL_ge (zs : List Int) (k : Nat) : ∀ i, i ≤ k → zs.getD i 0 ≤ maxL zs k := by
  induction k with
  | zero => intro i hi; obtain rfl : i = 0 := (by omega); exact Int.le_refl _
  | succ k ih =>
    intro i hi
    unfold maxL
    by_cases e : i = k + 1
    · subst e; omega
    · have := ih i (by omega); omega
theorem maxL_in (zs : List Int) (k : Nat) : ∃ i, i ≤ k ∧ maxL zs k = zs.getD i 0 := by
  induction k with
  | zero => exact ⟨0, Nat.le_refl _, rfl⟩
  | succ k ih =>
    obtain ⟨i, hi, e⟩ := ih
    unfold maxL
    rcases Int.le_total (maxL zs k) (zs.getD (k + 1) 0) with h | h
    · exact ⟨k + 1, Nat.le_refl _, by omega⟩
    · exact ⟨i, by omega, by omega⟩
theorem minL_le (zs : List Int) (k : Nat) : ∀ i, i ≤ k → minL zs k ≤ zs.getD i 0 := by
  induction k with
  | zero => intro i hi; obtain rfl : i = 0 := (by omega); exact Int.le_refl _
  | succ k ih =>
    intro i hi
    unfold minL
    by_cases e : i = k + 1
    · subst e; omega
    · have := ih i (by omega); omega
theorem minL_in (zs : List Int) (k : Nat) : ∃ i, i ≤ k ∧ minL zs k = zs.getD i 0 := by
  induction k with
  | zero => exact ⟨0, Nat.le_refl _, rfl⟩
  | succ k ih =>
    obtain ⟨i, hi, e⟩ := ih
    unfold minL
    rcases Int.le_total (zs.getD (k + 1) 0) (minL zs k) with h | h
    · exact ⟨k + 1, Nat.le_refl _, by omega⟩
    · exact ⟨i, by omega, by omega⟩
theorem getD_mem {zs : List Int} {i : Nat} (h : i < zs.length) : zs.getD i 0 ∈ zs := by rw [getD_lt _ _ _ h]; exact List.getElem_mem _
theorem mem_getD {zs : List Int} {x : Int} (h : x ∈ zs) : ∃ i, i < zs.length ∧ zs.getD i 0 = x := by
  obtain ⟨i, hi, e⟩ := List.mem_iff_getElem.1 h
  exact ⟨i, hi, by rw [getD_lt _ _ _ hi]; exact e⟩
theorem max_last (zs : List Int) (h0 : 0 < zs.length) : maxL zs (zs.length - 1) = (sortL zs).getD (zs.length - 1) 0 := by
  have hl := sortL_length zs
  obtain ⟨i, hi, e⟩ := maxL_in zs (zs.length - 1)
  have h1 : maxL zs (zs.length - 1) ∈ sortL zs := (sortL_perm zs).mem_iff.2 (by rw [e]; exact getD_mem (by omega))
  obtain ⟨j, hj, ej⟩ := mem_getD h1
  have h2 := asc_getD (sortL_asc zs) (i := j) (j := zs.length - 1) (by omega) (by omega)
  have h3 : (sortL zs).getD (zs.length - 1) 0 ∈ zs := (sortL_perm zs).mem_iff.1 (getD_mem (by omega))
  obtain ⟨k, hk, ek⟩ := mem_getD h3
  have h4 := maxL_ge zs (zs.length - 1) k (by omega)
  omega
theorem min_first (zs : List Int) (h0 : 0 < zs.length) : minL zs (zs.length - 1) = (sortL zs).getD 0 0 := by
  have hl := sortL_length zs
  obtain ⟨i, hi, e⟩ := minL_in zs (zs.length - 1)
  have h1 : minL zs (zs.length - 1) ∈ sortL zs := (sortL_perm zs).mem_iff.2 (by rw [e]; exact getD_mem (by omega))
  obtain ⟨j, hj, ej⟩ := mem_getD h1
  have h2 := asc_getD (sortL_asc zs) (i := 0) (j := j) (by omega) (by omega)
  have h3 : (sortL zs).getD 0 0 ∈ zs := (sortL_perm zs).mem_iff.1 (getD_mem (by omega))
  obtain ⟨k, hk, ek⟩ := mem_getD h3
  have h4 := minL_le zs (zs.length - 1) k (by omega)
  omega
end Go.Proofs.Ytaocjjocncoahaa
