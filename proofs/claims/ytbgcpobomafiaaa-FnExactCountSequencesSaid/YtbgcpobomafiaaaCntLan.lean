/- Counting Landau's sequences: the plain functions, and that they are one. -/
import Derived.Test.YtbgcpobomafiaaaLandau
namespace Go.Proofs.Ytbgcpobomafiaaa
open Go.RowKit

/-- The sum of g over lo, lo + 1, .., lo + k - 1. -/
def rsum (g : Nat → Nat) (lo k : Nat) : Nat := ((List.range k).map fun i => g (lo + i)).sum
theorem rsum_zero (g : Nat → Nat) (lo : Nat) : rsum g lo 0 = 0 := rfl
theorem rsum_succ (g : Nat → Nat) (lo k : Nat) : rsum g lo (k + 1) = rsum g lo k + g (lo + k) := by simp [rsum, List.range_succ]
theorem rsum_congr (g g' : Nat → Nat) (lo k : Nat) (h : ∀ i, i < k → g (lo + i) = g' (lo + i)) : rsum g lo k = rsum g' lo k := by
  induction k with
  | zero => rfl
  | succ k ih => rw [rsum_succ, rsum_succ, ih (fun i hi => h i (by omega)), h k (by omega)]
theorem rsum_null (g : Nat → Nat) (lo k : Nat) (h : ∀ i, i < k → g (lo + i) = 0) : rsum g lo k = 0 := by
  induction k with
  | zero => rfl
  | succ k ih => rw [rsum_succ, ih (fun i hi => h i (by omega)), h k (by omega)]
theorem rsum_cut (g : Nat → Nat) (lo j k : Nat) (hj : j ≤ k) (h : ∀ i, j ≤ i → i < k → g (lo + i) = 0) : rsum g lo k = rsum g lo j := by
  induction k with
  | zero => have : j = 0 := by omega
            subst this; rfl
  | succ k ih =>
    by_cases e : j = k + 1
    · subst e; rfl
    · rw [rsum_succ, h k (by omega) (by omega), ih (by omega) (fun i h1 h2 => h i h1 (by omega))]
      rfl
theorem rsum_le (g : Nat → Nat) (m lo k : Nat) (h : ∀ x, g x ≤ m) (hk : k ≤ 8) : rsum g lo k ≤ 8 * m := by
  have : rsum g lo k ≤ k * m := by
    induction k with
    | zero => simp [rsum]
    | succ k ih => rw [rsum_succ, Nat.succ_mul]; have := h (lo + k); have := ih (by omega); omega
  exact Nat.le_trans this (Nat.mul_le_mul_right m hk)
/-- k (k - 1) / 2. -/
def triS (k : Nat) : Nat := k * (k - 1) / 2
theorem triS_succ (k : Nat) : triS (k + 1) = triS k + k := by
  unfold triS
  have : (k + 1) * (k + 1 - 1) = k * (k - 1) + k * 2 := by
    cases k with
    | zero => rfl
    | succ k => simp only [Nat.add_sub_cancel]; rw [Nat.add_mul, Nat.mul_add, Nat.mul_add]; omega
  rw [this, Nat.add_mul_div_right _ _ (by omega)]
/-- The numbers as the program has them. -/
def castI (ns : List Nat) : List Int := ns.map fun (x : Nat) => (x : Int)
theorem castI_length (ns : List Nat) : (castI ns).length = ns.length := by simp [castI]
theorem castI_getD (ns : List Nat) (i : Nat) : (castI ns).getD i 0 = ((ns.getD i 0 : Nat) : Int) := by
  unfold castI
  rw [List.getD, List.getD, List.getElem?_map]
  cases ns[i]? <;> simp
/-- The least number that may come next. -/
def leastN (ns : List Nat) : Nat := ns.getD (ns.length - 1) 0
/-- The sequences of n scores that begin so. -/
def clN (n : Nat) : Nat → List Nat → Nat
  | 0, ns => if lanS (castI ns) then 1 else 0
  | f + 1, ns => rsum (fun s => clN n f (ns ++ [s])) (leastN ns) (n - leastN ns)
theorem clN_le (n : Nat) (hn : n ≤ 8) (f : Nat) (ns : List Nat) : clN n f ns ≤ 8 ^ f := by
  induction f generalizing ns with
  | zero => unfold clN; split <;> simp
  | succ f ih =>
    unfold clN
    have := rsum_le (fun s => clN n f (ns ++ [s])) (8 ^ f) (leastN ns) (n - leastN ns) (fun x => ih _) (by omega)
    rw [Nat.pow_succ]
    omega
/-- The reference's count. -/
def l3N (n : Nat) : Nat → Nat → Nat → Nat → Nat
  | 0, k, _, sum => if sum < triS k then 0 else if sum = triS n then 1 else 0
  | f + 1, k, last, sum => if sum < triS k then 0 else rsum (fun x => if sum + x * (n - k) ≤ triS n then l3N n f (k + 1) x (sum + x) else 0) last (n - last)
theorem l3N_le (n : Nat) (hn : n ≤ 8) (f k last sum : Nat) : l3N n f k last sum ≤ 8 ^ f := by
  induction f generalizing k last sum with
  | zero => unfold l3N; split <;> (try split) <;> simp
  | succ f ih =>
    unfold l3N
    split
    · simp
    · have := rsum_le (fun x => if sum + x * (n - k) ≤ triS n then l3N n f (k + 1) x (sum + x) else 0) (8 ^ f) last (n - last) (fun x => by split; exact ih _ _ _; simp) (by omega)
      rw [Nat.pow_succ]
      omega
theorem l3N_big (n f : Nat) : ∀ (k last sum : Nat), k + f = n → triS n < sum + last * f → l3N n f k last sum = 0 := by
  induction f with
  | zero =>
    intro k last sum hk h
    unfold l3N
    split
    · rfl
    · rw [if_neg (by omega)]
  | succ f ih =>
    intro k last sum hk h
    unfold l3N
    split
    · rfl
    · refine rsum_null _ _ _ fun i _ => ?_
      rw [if_neg]
      have : last * (f + 1) ≤ (last + i) * (n - k) := by rw [show n - k = f + 1 by omega]; exact Nat.mul_le_mul_right _ (by omega)
      omega
/-- All beginnings are long enough. -/
def okP (ns : List Nat) (k : Nat) : Bool := (List.range k).all fun i => decide (triS (i + 1) ≤ (ns.take (i + 1)).sum)
theorem okP_iff (ns : List Nat) (k : Nat) : okP ns k = true ↔ ∀ i, i < k → triS (i + 1) ≤ (ns.take (i + 1)).sum := by
  unfold okP
  rw [List.all_eq_true]
  exact ⟨fun h i hi => by simpa using h i (by rwa [List.mem_range]), fun h i hi => by simpa using h i (by rwa [List.mem_range] at hi)⟩
theorem okP_snoc (ns : List Nat) (s : Nat) : okP (ns ++ [s]) (ns.length + 1) = (okP ns ns.length && decide (triS (ns.length + 1) ≤ ns.sum + s)) := by
  rw [Bool.eq_iff_iff, Bool.and_eq_true, okP_iff, okP_iff, decide_eq_true_eq]
  constructor
  · intro h
    refine ⟨fun i hi => ?_, ?_⟩
    · have := h i (by omega)
      rwa [List.take_append_of_le_length (by omega)] at this
    · have := h ns.length (by omega)
      rw [List.take_of_length_le (by simp)] at this
      simpa using this
  · rintro ⟨h1, h2⟩ i hi
    by_cases e : i < ns.length
    · rw [List.take_append_of_le_length (by omega)]
      exact h1 i e
    · have : i = ns.length := by omega
      subst this
      rw [List.take_of_length_le (by simp)]
      simpa using h2
theorem slk_casts (ns : List Nat) (k : Nat) (hk : k ≤ ns.length) : slk (castI ns) k = ((ns.take k).sum : Int) - (triS k : Int) := by
  induction k with
  | zero => simp [slk, triS]
  | succ k ih =>
    rw [slk, ih (by omega), castI_getD, List.take_succ_eq_append_getElem (by omega), List.sum_append, triS_succ, getD_lt _ _ _ (by omega)]
    simp
    omega
/-- Numbers below n, none below the one ahead. -/
def goodN (n : Nat) (ns : List Nat) : Prop := (∀ i, i < ns.length → ns.getD i 0 < n) ∧ ∀ i, i + 1 < ns.length → ns.getD i 0 ≤ ns.getD (i + 1) 0
theorem goodN_snoc (n : Nat) (ns : List Nat) (s : Nat) (h : goodN n ns) (h1 : leastN ns ≤ s) (h2 : s < n) : goodN n (ns ++ [s]) := by
  have e : ∀ i, i < ns.length → (ns ++ [s]).getD i 0 = ns.getD i 0 := fun i hi => by
    rw [List.getD, List.getD, List.getElem?_append_left hi]
  have el : (ns ++ [s]).getD ns.length 0 = s := by simp [List.getD]
  refine ⟨fun i hi => ?_, fun i hi => ?_⟩
  · by_cases hi2 : i < ns.length
    · rw [e i hi2]; exact h.1 i hi2
    · have : i = ns.length := by simp at hi; omega
      subst this
      rw [el]; exact h2
  · by_cases hi2 : i + 1 < ns.length
    · rw [e i (by omega), e (i + 1) hi2]; exact h.2 i hi2
    · have : i + 1 = ns.length := by simp at hi; omega
      rw [e i (by omega), this, el]
      unfold leastN at h1
      rwa [show ns.length - 1 = i by omega] at h1
theorem lanS_good (n : Nat) (ns : List Nat) (h1 : 1 ≤ n) (h8 : n ≤ 8) (hl : ns.length = n) (h : goodN n ns) : lanS (castI ns) = (okP ns n && (ns.sum == triS n)) := by
  unfold lanS
  rw [castI_length, hl, decide_eq_true h1, decide_eq_true h8, slk_casts ns n (by omega), List.take_of_length_le (by omega)]
  have e : ((ns.sum : Int) - (triS n : Int) == 0) = (ns.sum == triS n) := by
    rw [Bool.eq_iff_iff, beq_iff_eq, beq_iff_eq]
    omega
  rw [e]
  have ea : (List.range n).all (lanAt (castI ns)) = okP ns n := by
    rw [Bool.eq_iff_iff, okP_iff, List.all_eq_true]
    constructor
    · intro ha i hi
      have := ha i (by rwa [List.mem_range])
      unfold lanAt at this
      simp only [Bool.and_eq_true, decide_eq_true_eq] at this
      have h4 := this.2
      rw [slk_casts ns (i + 1) (by omega)] at h4
      omega
    · intro ha i hi
      rw [List.mem_range] at hi
      have h3 := ha i hi
      have h4 := h.1 i (by omega)
      unfold lanAt
      rw [castI_getD, castI_getD, castI_length, slk_casts ns (i + 1) (by omega)]
      simp only [Bool.and_eq_true, decide_eq_true_eq, Bool.or_eq_true, beq_iff_eq]
      refine ⟨⟨⟨by omega, by omega⟩, ?_⟩, by omega⟩
      by_cases e0 : i = 0
      · exact .inl e0
      · right
        have := h.2 (i - 1) (by omega)
        rw [show i - 1 + 1 = i by omega] at this
        omega
  rw [ea]
  rfl
theorem clN_eq (n : Nat) (h1 : 1 ≤ n) (h8 : n ≤ 8) (f : Nat) : ∀ (ns : List Nat), goodN n ns → ns.length + f = n → clN n f ns = if okP ns ns.length then l3N n f ns.length (leastN ns) ns.sum else 0 := by
  induction f with
  | zero =>
    intro ns hg hl
    have hl : ns.length = n := by omega
    unfold clN l3N
    rw [lanS_good n ns h1 h8 hl hg, hl]
    cases ho : okP ns n with
    | false => simp
    | true =>
      have h3 := (okP_iff ns n).1 ho (n - 1) (by omega)
      rw [show n - 1 + 1 = n by omega, List.take_of_length_le (by omega)] at h3
      rw [if_neg (show ¬ ns.sum < triS n by omega)]
      by_cases e : ns.sum = triS n
      · simp [e]
      · simp [e]
  | succ f ih =>
    intro ns hg hl
    have hstep : ∀ s, leastN ns ≤ s → s < n → clN n f (ns ++ [s]) = if (okP ns ns.length && decide (triS (ns.length + 1) ≤ ns.sum + s)) then l3N n f (ns.length + 1) s (ns.sum + s) else 0 := by
      intro s hs1 hs2
      rw [ih (ns ++ [s]) (goodN_snoc n ns s hg hs1 hs2) (by simp; omega)]
      have e1 : (ns ++ [s]).length = ns.length + 1 := by simp
      have e2 : leastN (ns ++ [s]) = s := by simp [leastN, List.getD]
      have e3 : (ns ++ [s]).sum = ns.sum + s := by simp
      rw [e1, e2, e3, okP_snoc]
    rw [clN]
    cases ho : okP ns ns.length with
    | false =>
      simp only [Bool.false_eq_true, if_false]
      refine rsum_null _ _ _ fun i hi => ?_
      rw [hstep _ (by omega) (by omega), ho]
      rfl
    | true =>
      rw [if_pos rfl, l3N]
      have hs : ¬ ns.sum < triS ns.length := by
        by_cases e0 : ns.length = 0
        · rw [e0]; simp [triS]
        · have h3 := (okP_iff ns ns.length).1 ho (ns.length - 1) (by omega)
          rw [show ns.length - 1 + 1 = ns.length by omega, List.take_of_length_le (by omega)] at h3
          omega
      rw [if_neg hs]
      refine rsum_congr _ _ _ _ fun i hi => ?_
      rw [hstep _ (by omega) (by omega), ho, Bool.true_and]
      by_cases hb : ns.sum + (leastN ns + i) * (n - ns.length) ≤ triS n
      · rw [if_pos hb]
        by_cases hd : triS (ns.length + 1) ≤ ns.sum + (leastN ns + i)
        · rw [decide_eq_true hd]; rfl
        · rw [decide_eq_false hd]
          have : l3N n f (ns.length + 1) (leastN ns + i) (ns.sum + (leastN ns + i)) = 0 := by
            cases f with
            | zero => rw [l3N, if_pos (by omega)]
            | succ f => rw [l3N, if_pos (by omega)]
          rw [this]
          rfl
      · rw [if_neg hb, l3N_big n f _ _ _ (by omega) (by
          have : (leastN ns + i) * (n - ns.length) = (leastN ns + i) * f + (leastN ns + i) := by rw [show n - ns.length = f + 1 by omega, Nat.mul_succ]
          omega)]
        split <;> rfl
theorem cl_l3 (n : Nat) (h1 : 1 ≤ n) (h8 : n ≤ 8) : clN n n [] = l3N n n 0 0 0 := by
  rw [clN_eq n h1 h8 n [] ⟨fun i hi => absurd hi (by simp), fun i hi => absurd hi (by simp)⟩ (by simp)]
  rfl
end Go.Proofs.Ytbgcpobomafiaaa
