/- Counting Landau's sequences: the plain functions, and that they are one. One list grows in its place or anew, nothing else turns (KeepBut); append where the old list is used on. -/
import Derived.Test.YtaocjjocncoahaaMg1
import Derived.Test.YtaocjjocncoahaaSets
import Derived.ArgAppend
namespace Go.Proofs.Ytaocjjocncoahaa
open Go.RowKit

/-- The sum of g over lo, lo + 1, .., lo + k - 1. -/
def rsum (g : Nat → Nat) (lo k : Nat) : Nat := ((List.range k).map fun i => g (lo + i)).sum
theorem rsum_zero (g : Nat → Nat) (lo : Nat) : rsum g lo 0 = 0 := rfl
theorem rsum_succ (g : Nat → Nat) (lo k : Nat) : rsum g lo (k + 1) = rsum g lo k + g (lo + k) := by simp [rsum, List.range_succ]
theorem rsum_congr (g g' : Nat → Nat) (lo k : Nat) (h : ∀ i, i < k → g (lo + i) = g' (lo + i)) : rsum g lo k = rsum g' lo k := by
  induction k with
  | zero => rfl
  | succ k ih => rw [rsum_succ, rsum_succ, ih (fun i hi => h i (by omega)), h k (by omega)]
theorem rsum_null (g : Nat → Nat) (lo k : Nat) (h : ∀ i, i < k → g (lo + i) = 0) : rsum g lo k = 0 := by
  induction k with
  | zero => rfl
  | succ k ih => rw [rsum_succ, ih (fun i hi => h i (by omega)), h k (by omega)]
theorem rsum_cut (g : Nat → Nat) (lo j k : Nat) (hj : j ≤ k) (h : ∀ i, j ≤ i → i < k → g (lo + i) = 0) : rsum g lo k = rsum g lo j := by
  induction k with
  | zero => have : j = 0 := by omega
            subst this; rfl
  | succ k ih =>
    by_cases e : j = k + 1
    · subst e; rfl
    · rw [rsum_succ, h k (by omega) (by omega), ih (by omega) (fun i h1 h2 => h i h1 (by omega))]
      rfl
theorem rsum_le (g : Nat → Nat) (m lo k : Nat) (h : ∀ x, g x ≤ m) (hk : k ≤ 8) : rsum g lo k ≤ 8 * m := by
  have : rsum g lo k ≤ k * m := by
    induction k with
    | zero => simp [rsum]
    | succ k ih => rw [rsum_succ, Nat.succ_mul]; have := h (lo + k); have := ih (by omega); omega
  exact Nat.le_trans this (Nat.mul_le_mul_right m hk)
/-- k (k - 1) / 2. -/
def triS (k : Nat) : Nat := k * (k - 1) / 2
theorem triS_succ (k : Nat) : triS (k + 1) = triS k + k := by
  unfold triS
  have : (k + 1) * (k + 1 - 1) = k * (k - 1) + k * 2 := by
    cases k with
    | zero => rfl
    | succ k => simp only [Nat.add_sub_cancel]; rw [Nat.add_mul, Nat.mul_add, Nat.mul_add]; omega
  rw [this, Nat.add_mul_div_right _ _ (by omega)]
/-- The numbers as the program has them. -/
def castI (ns : List Nat) : List Int := ns.map fun (x : Nat) => (x : Int)
theorem castI_length (ns : List Nat) : (castI ns).length = ns.length := by simp [castI]
theorem castI_getD (ns : List Nat) (i : Nat) : (castI ns).getD i 0 = ((ns.getD i 0 : Nat) : Int) := by
  unfold castI
  rw [List.getD, List.getD, List.getElem?_map]
  cases ns[i]? <;> simp
/-- The least number that may come next. -/
def leastN (ns : List Nat) : Nat := ns.getD (ns.length - 1) 0
/-- The sequences of n scores that begin so. -/
def clN (n : Nat) : Nat → List Nat → Nat
  | 0, ns => if lanS (castI ns) then 1 else 0
  | f + 1, ns => rsum (fun s => clN n f (ns ++ [s])) (leastN ns) (n - leastN ns)
theorem clN_le (n : Nat) (hn : n ≤ 8) (f : Nat) (ns : List Nat) : clN n f ns ≤ 8 ^ f := by
  induction f generalizing ns with
  | zero => unfold clN; split <;> simp
  | succ f ih =>
    unfold clN
    have := rsum_le (fun s => clN n f (ns ++ [s])) (8 ^ f) (leastN ns) (n - leastN ns) (fun x => ih _) (by omega)
    rw [Nat.pow_succ]
    omega
/-- The reference's count. -/
def l3N (n : Nat) : Nat → Nat → Nat → Nat → Nat
  | 0, k, _, sum => if sum < triS k then 0 else if sum = triS n then 1 else 0
  | f + 1, k, last, sum => if sum < triS k then 0 else rsum (fun x => if sum + x * (n - k) ≤ triS n then l3N n f (k + 1) x (sum + x) else 0) last (n - last)
theorem l3N_le (n : Nat) (hn : n ≤ 8) (f k last sum : Nat) : l3N n f k last sum ≤ 8 ^ f := by
  induction f generalizing k last sum with
  | zero => unfold l3N; split <;> (try split) <;> simp
  | succ f ih =>
    unfold l3N
    split
    · simp
    · have := rsum_le (fun x => if sum + x * (n - k) ≤ triS n then l3N n f (k + 1) x (sum + x) else 0) (8 ^ f) last (n - last) (fun x => by split; exact ih _ _ _; simp) (by omega)
      rw [Nat.pow_succ]
      omega
theorem l3N_big (n f : Nat) : ∀ (k last sum : Nat), k + f = n → triS n < sum + last * f → l3N n f k last sum = 0 := by
  induction f with
  | zero =>
    intro k last sum hk h
    unfold l3N
    split
    · rfl
    · rw [if_neg (by omega)]
  | succ f ih =>
    intro k last sum hk h
    unfold l3N
    split
    · rfl
    · refine rsum_null _ _ _ fun i _ => ?_
      rw [if_neg]
      have : last * (f + 1) ≤ (last + i) * (n - k) := by rw [show n - k = f + 1 by omega]; exact Nat.mul_le_mul_right _ (by omega)
      omega
/-- All beginnings are long enough. -/
def okP (ns : List Nat) (k : Nat) : Bool := (List.range k).all fun i => decide (triS (i + 1) ≤ (ns.take (i + 1)).sum)
theorem okP_iff (ns : List Nat) (k : Nat) : okP ns k = true ↔ ∀ i, i < k → triS (i + 1) ≤ (ns.take (i + 1)).sum := by
  unfold okP
  rw [List.all_eq_true]
  exact ⟨fun h i hi => by simpa using h i (by rwa [List.mem_range]), fun h i hi => by simpa using h i (by rwa [List.mem_range] at hi)⟩
theorem okP_snoc (ns : List Nat) (s : Nat) : okP (ns ++ [s]) (ns.length + 1) = (okP ns ns.length && decide (triS (ns.length + 1) ≤ ns.sum + s)) := by
  rw [Bool.eq_iff_iff, Bool.and_eq_true, okP_iff, okP_iff, decide_eq_true_eq]
  constructor
  · intro h
    refine ⟨fun i hi => ?_, ?_⟩
    · have := h i (by omega)
      rwa [List.take_append_of_le_length (by omega)] at this
    · have := h ns.length (by omega)
      rw [List.take_of_length_le (by simp)] at this
      simpa using this
  · rintro ⟨h1, h2⟩ i hi
    by_cases e : i < ns.length
    · rw [List.take_append_of_le_length (by omega)]
      exact h1 i e
    · have : i = ns.length := by omega
      subst this
      rw [List.take_of_length_le (by simp)]
      simpa using h2
theorem slk_casts (ns : List Nat) (k : Nat) (hk : k ≤ ns.length) : slk (castI ns) k = ((ns.take k).sum : Int) - (triS k : Int) := by
  induction k with
  | zero => simp [slk, triS]
  | succ k ih =>
    rw [slk, ih (by omega), castI_getD, List.take_succ_eq_append_getElem (by omega), List.sum_append, triS_succ, getD_lt _ _ _ (by omega)]
    simp
    omega
/-- Numbers below n, none below the one ahead. -/
def goodN (n : Nat) (ns : List Nat) : Prop := (∀ i, i < ns.length → ns.getD i 0 < n) ∧ ∀ i, i + 1 < ns.length → ns.getD i 0 ≤ ns.getD (i + 1) 0
theorem goodN_snoc (n : Nat) (ns : List Nat) (s : Nat) (h : goodN n ns) (h1 : leastN ns ≤ s) (h2 : s < n) : goodN n (ns ++ [s]) := by
  have e : ∀ i, i < ns.length → (ns ++ [s]).getD i 0 = ns.getD i 0 := fun i hi => by
    rw [List.getD, List.getD, List.getElem?_append_left hi]
  have el : (ns ++ [s]).getD ns.length 0 = s := by simp [List.getD]
  refine ⟨fun i hi => ?_, fun i hi => ?_⟩
  · by_cases hi2 : i < ns.length
    · rw [e i hi2]; exact h.1 i hi2
    · have : i = ns.length := by simp at hi; omega
      subst this
      rw [el]; exact h2
  · by_cases hi2 : i + 1 < ns.length
    · rw [e i (by omega), e (i + 1) hi2]; exact h.2 i hi2
    · have : i + 1 = ns.length := by simp at hi; omega
      rw [e i (by omega), this, el]
      unfold leastN at h1
      rwa [show ns.length - 1 = i by omega] at h1
theorem lanS_good (n : Nat) (ns : List Nat) (h1 : 1 ≤ n) (h8 : n ≤ 8) (hl : ns.length = n) (h : goodN n ns) : lanS (castI ns) = (okP ns n && (ns.sum == triS n)) := by
  unfold lanS
  rw [castI_length, hl, decide_eq_true h1, decide_eq_true h8, slk_casts ns n (by omega), List.take_of_length_le (by omega)]
  have e : ((ns.sum : Int) - (triS n : Int) == 0) = (ns.sum == triS n) := by
    rw [Bool.eq_iff_iff, beq_iff_eq, beq_iff_eq]
    omega
  rw [e]
  have ea : (List.range n).all (lanAt (castI ns)) = okP ns n := by
    rw [Bool.eq_iff_iff, okP_iff, List.all_eq_true]
    constructor
    · intro ha i hi
      have := ha i (by rwa [List.mem_range])
      unfold lanAt at this
      simp only [Bool.and_eq_true, decide_eq_true_eq] at this
      have h4 := this.2
      rw [slk_casts ns (i + 1) (by omega)] at h4
      omega
    · intro ha i hi
      rw [List.mem_range] at hi
      have h3 := ha i hi
      have h4 := h.1 i (by omega)
      unfold lanAt
      rw [castI_getD, castI_getD, castI_length, slk_casts ns (i + 1) (by omega)]
      simp only [Bool.and_eq_true, decide_eq_true_eq, Bool.or_eq_true, beq_iff_eq]
      refine ⟨⟨⟨by omega, by omega⟩, ?_⟩, by omega⟩
      by_cases e0 : i = 0
      · exact .inl e0
      · right
        have := h.2 (i - 1) (by omega)
        rw [show i - 1 + 1 = i by omega] at this
        omega
  rw [ea]
  rfl
theorem clN_eq (n : Nat) (h1 : 1 ≤ n) (h8 : n ≤ 8) (f : Nat) : ∀ (ns : List Nat), goodN n ns → ns.length + f = n → clN n f ns = if okP ns ns.length then l3N n f ns.length (leastN ns) ns.sum else 0 := by
  induction f with
  | zero =>
    intro ns hg hl
    have hl : ns.length = n := by omega
    unfold clN l3N
    rw [lanS_good n ns h1 h8 hl hg, hl]
    cases ho : okP ns n with
    | false => simp
    | true =>
      have h3 := (okP_iff ns n).1 ho (n - 1) (by omega)
      rw [show n - 1 + 1 = n by omega, List.take_of_length_le (by omega)] at h3
      rw [if_neg (show ¬ ns.sum < triS n by omega)]
      by_cases e : ns.sum = triS n
      · simp [e]
      · simp [e]
  | succ f ih =>
    intro ns hg hl
    have hstep : ∀ s, leastN ns ≤ s → s < n → clN n f (ns ++ [s]) = if (okP ns ns.length && decide (triS (ns.length + 1) ≤ ns.sum + s)) then l3N n f (ns.length + 1) s (ns.sum + s) else 0 := by
      intro s hs1 hs2
      rw [ih (ns ++ [s]) (goodN_snoc n ns s hg hs1 hs2) (by simp; omega)]
      have e1 : (ns ++ [s]).length = ns.length + 1 := by simp
      have e2 : leastN (ns ++ [s]) = s := by simp [leastN, List.getD]
      have e3 : (ns ++ [s]).sum = ns.sum + s := by simp
      rw [e1, e2, e3, okP_snoc]
    rw [clN]
    cases ho : okP ns ns.length with
    | false =>
      simp only [Bool.false_eq_true, if_false]
      refine rsum_null _ _ _ fun i hi => ?_
      rw [hstep _ (by omega) (by omega), ho]
      rfl
    | true =>
      rw [if_pos rfl, l3N]
      have hs : ¬ ns.sum < triS ns.length := by
        by_cases e0 : ns.length = 0
        · rw [e0]; simp [triS]
        · have h3 := (okP_iff ns ns.length).1 ho (ns.length - 1) (by omega)
          rw [show ns.length - 1 + 1 = ns.length by omega, List.take_of_length_le (by omega)] at h3
          omega
      rw [if_neg hs]
      refine rsum_congr _ _ _ _ fun i hi => ?_
      rw [hstep _ (by omega) (by omega), ho, Bool.true_and]
      by_cases hb : ns.sum + (leastN ns + i) * (n - ns.length) ≤ triS n
      · rw [if_pos hb]
        by_cases hd : triS (ns.length + 1) ≤ ns.sum + (leastN ns + i)
        · rw [decide_eq_true hd]; rfl
        · rw [decide_eq_false hd]
          have : l3N n f (ns.length + 1) (leastN ns + i) (ns.sum + (leastN ns + i)) = 0 := by
            cases f with
            | zero => rw [l3N, if_pos (by omega)]
            | succ f => rw [l3N, if_pos (by omega)]
          rw [this]
          rfl
      · rw [if_neg hb, l3N_big n f _ _ _ (by omega) (by
          have : (leastN ns + i) * (n - ns.length) = (leastN ns + i) * f + (leastN ns + i) := by rw [show n - ns.length = f + 1 by omega, Nat.mul_succ]
          omega)]
        split <;> rfl
theorem cl_l3 (n : Nat) (h1 : 1 ≤ n) (h8 : n ≤ 8) : clN n n [] = l3N n n 0 0 0 := by
  rw [clN_eq n h1 h8 n [] ⟨fun i hi => absurd hi (by simp), fun i hi => absurd hi (by simp)⟩ (by simp)]
  rfl
end Go.Proofs.Ytaocjjocncoahaa

namespace Go.Proofs.Ytaocjjocncoahaa
open Go.RowKit

/-- Nothing that was there has turned but the block at A. -/
structure KeepBut (A : Option Addr) (w w' : World) : Prop where
  os : w'.os = w.os
  tape : w'.tape = w.tape
  output : w'.output = w.output
  size : w.heap.size ≤ w'.heap.size
  block : ∀ g, g < w.heap.size → A ≠ some ⟨g, 0, none⟩ → w'.heap[g]? = w.heap[g]?
section
variable {A A' : Option Addr} {a b c w w' : World}
theorem KeepBut.refl (A : Option Addr) (w : World) : KeepBut A w w := ⟨rfl, rfl, rfl, Nat.le_refl _, fun _ _ _ => rfl⟩
theorem KeepBut.trans (h : KeepBut A a b) (k : KeepBut A b c) : KeepBut A a c :=
  ⟨k.os.trans h.os, k.tape.trans h.tape, k.output.trans h.output, Nat.le_trans h.size k.size, fun g hg r => (k.block g (Nat.lt_of_lt_of_le hg h.size) r).trans (h.block g hg r)⟩
theorem KeepBut.of_below (h : Below w.heap.size w w') : KeepBut A w w' := ⟨h.os, h.tape, h.output, h.size, fun g hg _ => h.block g hg⟩
theorem KeepBut.fresh (h : KeepBut A' b c) (k : KeepBut A a b) (hf : ∃ q, A' = some ⟨q, 0, none⟩ ∧ a.heap.size ≤ q) : KeepBut A a c :=
  ⟨h.os.trans k.os, h.tape.trans k.tape, h.output.trans k.output, Nat.le_trans k.size h.size, fun g hg r => (h.block g (Nat.lt_of_lt_of_le hg k.size) (by
    obtain ⟨q, e, hq⟩ := hf
    rw [e]
    intro e2
    simp only [Option.some.injEq, Addr.mk.injEq, and_true] at e2
    omega)).trans (k.block g hg r)⟩
theorem KeepBut.none (h : KeepBut none w w') : Below w.heap.size w w' := ⟨h.os, h.tape, h.output, h.size, fun g hg => h.block g hg (by simp)⟩
end
theorem own_head {w : World} {lo hi : Nat} {t : TypeId} {A : Option Addr} {c : Nat} {xs ys : List Value} (h : Own w lo hi t A c (xs ++ ys)) : Own w lo hi t A c xs := by
  rcases h with ⟨h1, h2, h3⟩ | ⟨g, cur, e, a, b, hh, h1, h2, h3, h4⟩
  · rw [List.append_eq_nil_iff] at h2
    exact .inl ⟨h1, h2.1, h3⟩
  · refine .inr ⟨g, cur, e, a, b, hh, by simp at h1; omega, h2, h3, ?_⟩
    have := congrArg (List.take xs.length) h4
    rw [List.take_take, List.take_append_of_le_length (Nat.le_refl _), List.take_length, Nat.min_eq_left (by simp)] at this
    exact this

/-- append(list, x) where the list is used on behind it. -/
theorem wpList_pushKeep {ops : Array Oper} {rest : List Oper} {o : Oper} {a : Act} {Q : Exit → Act → World → Prop} {w : World} (hgd : o.guard = none) (s x : Operand)
    (ho : o.op = .call { callee := .builtin .append, args := #[s, x], argTypes := #[24, 24] })
    (lo hi : Nat) (A : Option Addr) (c n : Nat) (zs : List Int) (z : Int) (g : Nat) (hs : a.eval s = .slice A n c) (hx : a.eval x = .slice (some ⟨g, 0, none⟩) 1 1)
    (hn : n = zs.length) (hown : Own w lo hi 3 A c (ints zs)) (hcell : w.cell? ⟨g, 0, none⟩ = some (.int .i64 z)) (hl : n ≤ 1099511627776) (hlo : lo ≤ w.heap.size) (hhi : hi ≤ w.heap.size)
    (h : ∀ A' c' w', Own w' lo w'.heap.size 3 A' c' (ints (zs ++ [z])) → Own w' lo hi 3 A c (ints zs) → KeepBut A w w' → ((A' = A ∧ c' = c) ∨ ∃ q, A' = some ⟨q, 0, none⟩ ∧ w.heap.size ≤ q) →
      wpList Try.prog ops Q rest (a.put o.dst (.slice A' (n + 1) c')) w') : wpList Try.prog ops Q (o :: rest) a w := by
  subst hn
  obtain ⟨i0, hi0, hz0, hz1, hz2⟩ := info_parts int_info
  have hcap := hown.cap
  rw [ints_length] at hcap
  have hgrown : ∀ v' w', w'.ownsRow w.heap.size 3 1 v' (zs.length + 1) (ints zs ++ [Value.int .i64 z]) → w.grownBy w' none → wpList Try.prog ops Q rest (a.put o.dst v') w' := by
    intro v' w' h1 h2
    obtain ⟨A', c', rfl, hlen, ho'⟩ := own_of_ownsRow h1
    have e : (ints zs ++ [Value.int .i64 z]).length = zs.length + 1 := by simp [ints]
    rw [e]
    have hfr : ∃ q, A' = some ⟨q, 0, none⟩ ∧ w.heap.size ≤ q := by
      rcases ho' with ⟨_, h5, _⟩ | ⟨q, cur, e5, h6, _⟩
      · simp at h5
      · exact ⟨q, e5, h6⟩
    refine h A' c' w' (by simpa [ints] using ho'.mono hlo (Nat.le_refl _)) (hown.keep fun b h3 h4 => h2.block b (by omega) (by simp)) ⟨h2.os, h2.tape, h2.output, h2.size, fun b hb _ => h2.block b hb (by simp)⟩ (.inr hfr)
  by_cases hr : zs.length + 1 ≤ c
  · rcases hown with ⟨h1, h2, h3⟩ | ⟨b, cur, rfl, h5, h6, hh, h7, h8, h9, h10⟩
    · omega
    · have hin : ∀ j u, (ints zs)[j]? = some u → w.cell? ⟨b, 0 + j, none⟩ = some u := by
        intro j u hu
        have hj : j < (ints zs).length := (List.getElem?_eq_some_iff.1 hu).1
        rw [cell_of_row w b (0 + j) cur 3 (0, 0) hh, Nat.zero_add, ← hu, ← h10, List.getElem?_take, if_pos hj]
        simp
      refine wpList_append_arg w hgd s x _ ho 3 i0 _ 1 8 Try.underlying24 hi0 hz0 hz1 hz2 rfl (by decide) b 0 zs.length c (ints zs) hs (by simp [ints]) hin ⟨g, 0, none⟩ 1 1 [.int .i64 z] hx rfl ?_ ?_ ?_ ?_ ?_ ?_ ?_
      · intro j u hu
        match j, hu with
        | 0, hu =>
          simp at hu
          subst hu
          exact hcell
        | j + 1, hu => simp at hu
      · intro u hu
        simp at hu
        subst hu
        rfl
      · intro _ j hj
        have hj0 : j = 0 := by simpa using hj
        subst hj0
        constructor
        · rw [cell_of_row w b _ cur 3 (0, 0) hh, Array.getElem?_eq_getElem (by omega)]
          rfl
        · simp [World.frozen?, hh]
      · unfold maxLen; omega
      · omega
      · intro _
        have e0 : w.setCells b (0 + zs.length * 1) [.int .i64 z] = w.setCell ⟨b, zs.length, none⟩ (.int .i64 z) := by
          rw [Nat.zero_add, Nat.mul_one]
          rfl
        rw [e0]
        have hh' := heap_setCell_same w b zs.length cur 3 (.int .i64 z) hh
        have hlen : (ints zs).length = zs.length := ints_length zs
        refine h _ c _ (.inr ⟨b, cur.setIfInBounds zs.length (.int .i64 z), rfl, h5, by simp; omega, hh', by simp [ints]; omega, h8, by simpa using h9, ?_⟩) (.inr ⟨b, cur.setIfInBounds zs.length (.int .i64 z), rfl, h5, h6, hh', h7, h8, by simpa using h9, ?_⟩) ⟨rfl, rfl, rfl, by simp, fun q hq hne => Below.heap_setCell w _ _ q (by intro e; subst e; exact hne rfl)⟩ (.inl ⟨rfl, rfl⟩)
        · rw [Array.toList_setIfInBounds]
          have e1 : ints (zs ++ [z]) = ints zs ++ [.int .i64 z] := by simp [ints]
          rw [e1, List.length_append, List.length_singleton, hlen]
          rw [hlen] at h10
          have hcl : zs.length < cur.toList.length := by simp; omega
          rw [List.take_succ_eq_append_getElem (by simpa using hcl), List.take_set_of_le (Nat.le_refl _), h10]
          simp
        · rw [Array.toList_setIfInBounds, hlen, List.take_set_of_le (Nat.le_refl _)]
          rwa [hlen] at h10
      · intro hlt
        omega
  · have hfull : c = zs.length := by omega
    refine wpList_append_grows w hgd s x _ ho 3 i0 _ 1 8 Try.underlying24 hi0 hz0 hz1 hz2 rfl (by decide) A zs.length c (ints zs) hs (fun e => ?_) (by simp [ints]) (fun b e j u hu => ?_) ⟨g, 0, none⟩ 1 1 [.int .i64 z] hx rfl ?_ ?_ (by omega) (by unfold maxLen; omega) (by omega) hgrown
    · rcases hown with ⟨_, h2, h3⟩ | ⟨b, cur, e2, _⟩
      · have : zs = [] := by simpa [ints] using h2
        subst this
        exact ⟨rfl, h3⟩
      · rw [e] at e2; cases e2
    · have hrow := hown.row
      obtain ⟨b2, off2, e2, _, hc2⟩ := hrow (by have := (List.getElem?_eq_some_iff.1 hu).1; omega)
      rw [e] at e2
      simp only [Option.some.injEq] at e2
      subst e2
      have e3 : (⟨b2, off2, none⟩ : Addr).add j = ⟨b2, off2 + j, none⟩ := by unfold Addr.add; split <;> simp_all
      rw [e3]
      exact hc2 j u hu
    · intro j u hu
      match j, hu with
      | 0, hu =>
        simp at hu
        subst hu
        exact hcell
      | j + 1, hu => simp at hu
    · intro u hu
      simp at hu
      subst hu
      rfl
end Go.Proofs.Ytaocjjocncoahaa
