/- Landau's condition, plain: a tour's scores in order, their slack, and where it is none. -/
import Derived.Test.YtaocjjocncoahaaRealV
import Derived.Test.YtaocjjocncoahaaReach
import Derived.Test.YtaocjjocncoahaaRegular
import Derived.Test.YtaocjjocncoahaaMostTriangles
namespace Go.Proofs.Ytaocjjocncoahaa
open Go.RowKit

theorem nd_inj {l : List Nat} (hn : l.Nodup) {i j : Nat} (hi : i < l.length) (hj : j < l.length) (e : l[i] = l[j]) : i = j := by
  rcases Nat.lt_trichotomy i j with h | h | h
  · exact absurd e (List.pairwise_iff_getElem.1 hn i j hi hj h)
  · exact h
  · exact absurd e.symm (List.pairwise_iff_getElem.1 hn j i hj hi h)
theorem cntB_range (n : Nat) (f : Nat → Bool) : cntB n f = (List.range n).countP f := by
  induction n with
  | zero => rfl
  | succ n ih => rw [cntB, ih, List.range_succ, List.countP_append, List.countP_singleton]
theorem cntB_perm {os : List Nat} {n : Nat} (hp : os.Perm (List.range n)) (g : Nat → Bool) : cntB n (fun j => g (os.getD j 0)) = cntB n g := by
  have hl : os.length = n := by rw [hp.length_eq, List.length_range]
  have e : (List.range n).map (fun j => os.getD j 0) = os := by
    apply List.ext_getElem
    · simp [hl]
    · intro i h1 h2
      rw [List.getElem_map, List.getElem_range, getD_lt _ _ _ h2]
  have h1 : (List.range n).countP (fun j => g (os.getD j 0)) = os.countP g := by
    conv => rhs; rw [← e]
    rw [List.countP_map]
    rfl
  rw [cntB_range, cntB_range, h1, hp.countP_eq]
theorem cntB_le (n k : Nat) (f : Nat → Bool) (h : k ≤ n) : cntB k f ≤ cntB n f := by
  induction n with
  | zero => obtain rfl : k = 0 := by omega
            exact Nat.le_refl _
  | succ n ih =>
    by_cases e : k = n + 1
    · subst e; exact Nat.le_refl _
    · have := ih (by omega)
      rw [cntB]
      omega
theorem cntB_same (n k : Nat) (f : Nat → Bool) (h : k ≤ n) : cntB n f = cntB k f ↔ ∀ j, k ≤ j → j < n → f j = false := by
  induction n with
  | zero => obtain rfl : k = 0 := by omega
            exact ⟨fun _ j _ hj => absurd hj (by omega), fun _ => rfl⟩
  | succ n ih =>
    by_cases e : k = n + 1
    · subst e
      exact ⟨fun _ j h1 h2 => absurd h1 (by omega), fun _ => rfl⟩
    · have i := ih (by omega)
      have hm := cntB_le n k f (by omega)
      rw [cntB]
      constructor
      · intro h j h1 h2
        have h3 : cntB n f = cntB k f ∧ f n = false := by
          cases hf : f n
          · rw [hf] at h; exact ⟨by simpa using h, rfl⟩
          · rw [hf, if_pos rfl] at h; omega
        by_cases e2 : j = n
        · subst e2; exact h3.2
        · exact i.1 h3.1 j h1 (by omega)
      · intro h
        have := i.2 fun j h1 h2 => h j h1 (by omega)
        rw [h n (by omega) (by omega)]
        simpa using this
theorem cntB_lt (n a : Nat) (f : Nat → Bool) (ha : a < n) (hf : f a = false) : cntB n f + 1 ≤ n := by
  induction n with
  | zero => omega
  | succ n ih =>
    have hle : ∀ m, cntB m f ≤ m := fun m => by
      induction m with
      | zero => exact Nat.le_refl _
      | succ m ih => rw [cntB]; split <;> omega
    rw [cntB]
    by_cases e : a = n
    · subst e
      rw [hf]
      have := hle a
      simp
      exact this
    · have := ih (by omega)
      split <;> omega
theorem sumF_congr (f g : Nat → Int) (k : Nat) (h : ∀ i, i < k → f i = g i) : sumF f k = sumF g k := by
  induction k with
  | zero => rfl
  | succ k ih => rw [sumF, sumF, ih (fun i hi => h i (by omega)), h k (by omega)]
theorem sumF_nonneg (f : Nat → Int) (k : Nat) (h : ∀ i, i < k → 0 ≤ f i) : 0 ≤ sumF f k := by
  induction k with
  | zero => exact Int.le_refl _
  | succ k ih => have := ih (fun i hi => h i (by omega)); have := h k (by omega); rw [sumF]; omega
theorem sumF_zero (f : Nat → Int) (k : Nat) (h : ∀ i, i < k → 0 ≤ f i) : sumF f k = 0 ↔ ∀ i, i < k → f i = 0 := by
  induction k with
  | zero => exact ⟨fun _ i hi => absurd hi (by omega), fun _ => rfl⟩
  | succ k ih =>
    have i := ih (fun i hi => h i (by omega))
    have h1 := sumF_nonneg f k (fun i hi => h i (by omega))
    have h2 := h k (by omega)
    rw [sumF]
    constructor
    · intro e j hj
      by_cases e2 : j = k
      · subst e2; omega
      · exact i.1 (by omega) j (by omega)
    · intro e
      rw [i.2 fun j hj => e j (by omega), e k (by omega)]
      rfl
theorem sumF_less (x y : Nat → Int) (g : Nat → Bool) (k : Nat) : sumF (fun i => x i - (y i + if g i then 1 else 0)) k = sumF (fun i => x i - y i) k - (cntB k g : Int) := by
  induction k with
  | zero => rfl
  | succ k ih =>
    rw [sumF, ih, sumF, cntB]
    split <;> simp <;> omega
theorem cnt_both (b : Nat → Nat → Bool) (k : Nat) : ∀ m, m ≤ k → (∀ i, i < k → b i k = !b k i) → cntB m (fun i => b i k) + cntB m (b k) = m
  | 0, _, _ => rfl
  | m + 1, hm, h => by
    have := cnt_both b k m (by omega) h
    have e := h m (by omega)
    rw [cntB, cntB, e]
    cases b k m <;> simp <;> omega
/-- The scores in their order: their slack is what the first of them win from the others. -/
theorem slk_cross (b : Nat → Nat → Bool) (n : Nat) (q : List Int) (hq : ∀ i, i < n → q.getD i 0 = (cntB n (b i) : Int)) (hs : ∀ i, b i i = false) (hp : ∀ i j, i < n → j < n → i ≠ j → b i j = !b j i) :
    ∀ k, k ≤ n → slk q k = sumF (fun i => (cntB n (b i) : Int) - (cntB k (b i) : Int)) k
  | 0, _ => rfl
  | k + 1, hk => by
    have ih := slk_cross b n q hq hs hp k (by omega)
    have h1 := cnt_both b k k (Nat.le_refl _) (fun i hi => hp i k (by omega) (by omega) (by omega))
    have h2 := sumF_less (fun i => (cntB n (b i) : Int)) (fun i => (cntB k (b i) : Int)) (fun i => b i k) k
    have h3 : sumF (fun i => (cntB n (b i) : Int) - (cntB (k + 1) (b i) : Int)) k = sumF (fun i => (cntB n (b i) : Int) - ((cntB k (b i) : Int) + if b i k then 1 else 0)) k := by
      refine sumF_congr _ _ _ fun i _ => ?_
      rw [cntB]
      split <;> simp
    rw [slk, ih, hq k (by omega), sumF, h3, h2]
    have h4 : cntB (k + 1) (b k) = cntB k (b k) := by rw [cntB, hs k]; rfl
    rw [h4]
    omega

/-! ### A tour's scores in order -/
def lsq (W : List Nat) : List Int := sortL (casts (scL W))
theorem lsq_length (W : List Nat) : (lsq W).length = W.length := by rw [lsq, sortL_length, casts_length, scL_length]
/-- The players in the order of their scores. -/
def osq (W : List Nat) : List Nat := srt (fun x => (sc W x : Int)) (List.range W.length)
theorem scL_map (W : List Nat) : casts (scL W) = (List.range W.length).map (fun x => (sc W x : Int)) := by
  apply List.ext_getElem
  · rw [casts_length, scL_length]; simp
  · intro i h1 h2
    rw [casts_length] at h1
    have e : (casts (scL W))[i]'(by rwa [casts_length]) = ((scL W)[i] : Int) := by simp [casts]
    rw [e, scL_get]
    simp
section
variable {W : List Nat} (hT : IsT W)
include hT
theorem osq_perm : (osq W).Perm (List.range W.length) := srt_perm _ _ fun x hx => by
  have := hT.h8
  have := List.mem_range.1 hx
  omega
theorem osq_length : (osq W).length = W.length := by rw [(osq_perm hT).length_eq, List.length_range]
theorem lsq_is : lsq W = (osq W).map fun x => (sc W x : Int) := by
  unfold lsq osq
  rw [srt_vals _ _ fun x hx => by
    have := hT.h8
    have := List.mem_range.1 hx
    omega, scL_map]
theorem osq_nodup : (osq W).Nodup := (osq_perm hT).nodup_iff.2 List.nodup_range
theorem osq_lt {i : Nat} (hi : i < W.length) : (osq W).getD i 0 < W.length := by
  have hl := osq_length hT
  rw [getD_lt _ _ _ (by omega)]
  exact List.mem_range.1 ((osq_perm hT).mem_iff.1 (List.getElem_mem _))
theorem osq_ne {i j : Nat} (hi : i < W.length) (hj : j < W.length) (h : i ≠ j) : (osq W).getD i 0 ≠ (osq W).getD j 0 := by
  have hl := osq_length hT
  rw [getD_lt _ _ _ (by omega), getD_lt _ _ _ (by omega)]
  intro e
  exact h (nd_inj (osq_nodup hT) _ _ e)
theorem osq_at {x : Nat} (hx : x < W.length) : ∃ i, i < W.length ∧ (osq W).getD i 0 = x := by
  have hm : x ∈ osq W := (osq_perm hT).mem_iff.2 (List.mem_range.2 hx)
  obtain ⟨i, hi, e⟩ := List.mem_iff_getElem.1 hm
  have hl := osq_length hT
  exact ⟨i, by omega, by rw [getD_lt _ _ _ hi, e]⟩
theorem sc_cnt (a : Nat) : sc W a = cntB W.length (bt W a) := by
  have h8 := hT.h8
  unfold sc
  rw [pc_cntB]
  exact (cntB_same 8 W.length _ h8).2 fun j h1 _ => hT.out a j h1
theorem lsq_at {i : Nat} (hi : i < W.length) : (lsq W).getD i 0 = (sc W ((osq W).getD i 0) : Int) := by
  have hl := osq_length hT
  rw [getD_lt _ _ _ (by rw [lsq_length]; exact hi), getD_lt _ _ _ (by omega)]
  simp [lsq_is hT]
/-- Who beats whom, by places in the order. -/
def bO (W : List Nat) (i j : Nat) : Bool := bt W ((osq W).getD i 0) ((osq W).getD j 0)
theorem lsq_cnt {i : Nat} (hi : i < W.length) : (lsq W).getD i 0 = (cntB W.length (bO W i) : Int) := by
  rw [lsq_at hT hi, sc_cnt hT]
  have := cntB_perm (osq_perm hT) (bt W ((osq W).getD i 0))
  rw [← this]
  rfl
theorem bO_pair {i j : Nat} (hi : i < W.length) (hj : j < W.length) (h : i ≠ j) : bO W i j = !bO W j i := hT.pair _ _ (osq_lt hT hi) (osq_lt hT hj) (osq_ne hT hi hj h)
theorem lsq_cross {k : Nat} (hk : k ≤ W.length) : slk (lsq W) k = sumF (fun i => (cntB W.length (bO W i) : Int) - (cntB k (bO W i) : Int)) k :=
  slk_cross (bO W) W.length (lsq W) (fun _ hi => lsq_cnt hT hi) (fun _ => hT.self _) (fun _ _ hi hj h => bO_pair hT hi hj h) k hk
omit hT in
theorem cross_nonneg {k : Nat} (hk : k ≤ W.length) : ∀ i, i < k → 0 ≤ (cntB W.length (bO W i) : Int) - (cntB k (bO W i) : Int) := fun i _ => by
  have := cntB_le W.length k (bO W i) hk
  omega
theorem lsq_nonneg {k : Nat} (hk : k ≤ W.length) : 0 ≤ slk (lsq W) k := by
  rw [lsq_cross hT hk]
  exact sumF_nonneg _ _ (cross_nonneg hk)
theorem lsq_zero {k : Nat} (hk : k ≤ W.length) : slk (lsq W) k = 0 ↔ ∀ i j, i < k → k ≤ j → j < W.length → bO W i j = false := by
  rw [lsq_cross hT hk, sumF_zero _ _ (cross_nonneg hk)]
  constructor
  · intro h i j hi h1 h2
    have := h i hi
    exact (cntB_same W.length k _ hk).1 (by omega) j h1 h2
  · intro h i hi
    have := (cntB_same W.length k (bO W i) hk).2 fun j h1 h2 => h i j hi h1 h2
    omega
omit hT in
theorem lsq_asc {i j : Nat} (hij : i ≤ j) (hj : j < W.length) : (lsq W).getD i 0 ≤ (lsq W).getD j 0 := by
  by_cases e : i = j
  · subst e; exact Int.le_refl _
  · have h := sortL_asc (casts (scL W))
    have hl := lsq_length W
    rw [getD_lt _ _ _ (by omega), getD_lt _ _ _ (by omega)]
    exact List.pairwise_iff_getElem.1 h i j _ _ (by omega)
/-- A tour's scores in order fulfil Landau's condition. -/
theorem lsq_lan : lanS (lsq W) = true := by
  have h1 := hT.h1
  have h8 := hT.h8
  have hl := lsq_length W
  unfold lanS
  simp only [Bool.and_eq_true, decide_eq_true_eq, List.all_eq_true, List.mem_range, beq_iff_eq, hl]
  refine ⟨⟨⟨h1, h8⟩, fun i hi => ?_⟩, (lsq_zero hT (Nat.le_refl _)).2 fun i j _ h2 h3 => absurd h2 (by omega)⟩
  have h2 := cntB_lt W.length i (bO W i) hi (hT.self _)
  have h3 := lsq_cnt hT hi
  have h4 := lsq_nonneg hT (k := i + 1) (by omega)
  unfold lanAt
  simp only [Bool.and_eq_true, Bool.or_eq_true, decide_eq_true_eq, beq_iff_eq, hl]
  refine ⟨⟨⟨by omega, by omega⟩, ?_⟩, h4⟩
  by_cases e : i = 0
  · exact .inl e
  · exact .inr (lsq_asc (by omega) hi)

/-! ### Where the slack is none: the closed sets, and so the strong parts -/
theorem closed_score {C : Nat} (hC : Cl W C) (hlt : C < 2 ^ W.length) {x : Nat} (hx : x < W.length) : C.testBit x = true ↔ sc W x < pc 8 C := by
  have h8 := hT.h8
  have h256 : C < 256 := Nat.lt_of_lt_of_le hlt (pow_le8 _ h8)
  constructor
  · intro h
    have hs : Sub (W.getD x 0) C := fun i hi => hC x i h hi
    refine pc_strict h256 hs fun e => ?_
    have := hT.self x
    unfold bt at this
    rw [e, h] at this
    cases this
  · intro h
    cases hc : C.testBit x with
    | true => rfl
    | false =>
      exfalso
      have hs : Sub C (W.getD x 0) := fun i hi => by
        have hin := bit_lt hlt hi
        have hne : x ≠ i := fun e => by subst e; rw [hc] at hi; cases hi
        show bt W x i = true
        rw [hT.pair x i hx hin hne]
        cases hb : bt W i x with
        | false => rfl
        | true =>
          have := hC i x hi hb
          rw [hc] at this
          cases this
      have := pc_mono hs
      unfold sc at h
      omega
theorem zero_iff {k : Nat} (hk : k ≤ W.length) : slk (lsq W) k = 0 ↔ ∃ C, Cl W C ∧ C < 2 ^ W.length ∧ pc 8 C = k := by
  have h8 := hT.h8
  have hl := osq_length hT
  have hnd := osq_nodup hT
  have hlt8 : ∀ y ∈ osq W, y < 8 := fun y hy => by
    have := List.mem_range.1 ((osq_perm hT).mem_iff.1 hy)
    omega
  have hpcK : ∀ k, k ≤ W.length → pc 8 (bsN ((osq W).take k)) = k := fun k hk => by
    have := pc_ors 0 (osq W) hnd hlt8 (fun y _ => by simp) k (by omega)
    rwa [Nat.zero_or, show pc 8 0 = 0 by decide, Nat.zero_add] at this
  have hin : ∀ i, i < W.length → ((osq W).getD i 0 ∈ (osq W).take k ↔ i < k) := fun i hi => by
    rw [getD_lt _ _ _ (by omega)]
    constructor
    · intro h
      obtain ⟨j, hj, e⟩ := List.mem_iff_getElem.1 h
      rw [List.length_take] at hj
      rw [List.getElem_take] at e
      have := nd_inj hnd _ _ e
      omega
    · intro h
      exact List.mem_iff_getElem.2 ⟨i, by rw [List.length_take]; omega, by rw [List.getElem_take]⟩
  rw [lsq_zero hT hk]
  constructor
  · intro h
    refine ⟨bsN ((osq W).take k), fun x y hx hxy => ?_, ?_, hpcK k hk⟩
    · rw [bsN_bit, decide_eq_true_eq] at hx ⊢
      have hxn : x < W.length := List.mem_range.1 ((osq_perm hT).mem_iff.1 (List.mem_of_mem_take hx))
      have hyn : y < W.length := by
        apply Nat.lt_of_not_le
        intro h2
        have := hT.out x y h2
        rw [this] at hxy
        cases hxy
      obtain ⟨i, hi, rfl⟩ := osq_at hT hxn
      obtain ⟨j, hj, rfl⟩ := osq_at hT hyn
      have hik := (hin i hi).1 hx
      by_cases hjk : j < k
      · exact (hin j hj).2 hjk
      · have := h i j hik (by omega) hj
        unfold bO at this
        rw [this] at hxy
        cases hxy
    · refine Nat.lt_pow_two_of_testBit _ fun i hi => ?_
      rw [bsN_bit, decide_eq_false_iff_not]
      intro hm
      have := List.mem_range.1 ((osq_perm hT).mem_iff.1 (List.mem_of_mem_take hm))
      omega
  · rintro ⟨C, hC, hlt, hpc⟩ i j hi h1 h2
    have hsc : ∀ i, i < W.length → (C.testBit ((osq W).getD i 0) = true ↔ (lsq W).getD i 0 < (k : Int)) := fun i hi => by
      rw [closed_score hT hC hlt (osq_lt hT hi), hpc, lsq_at hT hi]
      omega
    have hall : ∀ i, i < k → C.testBit ((osq W).getD i 0) = true := fun i hi => by
      cases hc : C.testBit ((osq W).getD i 0) with
      | true => rfl
      | false =>
        exfalso
        have h3 : ¬ (lsq W).getD i 0 < (k : Int) := fun h => by
          have := (hsc i (by omega)).2 h
          rw [hc] at this
          cases this
        have hs : Sub C (bsN ((osq W).take i)) := fun x hx => by
          obtain ⟨m, hm, rfl⟩ := osq_at hT (bit_lt hlt hx)
          have h4 := (hsc m hm).1 hx
          have h5 : m < i := by
            apply Nat.lt_of_not_le
            intro h6
            have := lsq_asc h6 hm
            omega
          rw [bsN_bit, decide_eq_true_eq, getD_lt _ _ _ (by omega)]
          exact List.mem_iff_getElem.2 ⟨m, by rw [List.length_take]; omega, by rw [List.getElem_take]⟩
        have := pc_mono hs
        rw [hpcK i (by omega)] at this
        omega
    cases hb : bO W i j with
    | false => rfl
    | true =>
      exfalso
      have hj := hC _ _ (hall i hi) hb
      have hs : Sub (bsN ((osq W).take k)) C := fun x hx => by
        rw [bsN_bit, decide_eq_true_eq] at hx
        have hxn : x < W.length := List.mem_range.1 ((osq_perm hT).mem_iff.1 (List.mem_of_mem_take hx))
        obtain ⟨m, hm, rfl⟩ := osq_at hT hxn
        exact hall m ((hin m hm).1 hx)
      have h256 : C < 256 := Nat.lt_of_lt_of_le hlt (pow_le8 _ h8)
      have hne : bsN ((osq W).take k) ≠ C := fun e => by
        rw [← e, bsN_bit, decide_eq_true_eq, hin j h2] at hj
        omega
      have := pc_strict h256 hs hne
      rw [hpcK k hk] at this
      omega
theorem closed_chain {C D : Nat} (hC : Cl W C) (hD : Cl W D) (hCl : C < 2 ^ W.length) (hDl : D < 2 ^ W.length) (h : pc 8 C ≤ pc 8 D) : Sub C D := by
  intro x hx
  have hxn := bit_lt hCl hx
  rw [closed_score hT hD hDl hxn]
  have := (closed_score hT hC hCl hxn).1 hx
  omega
theorem zeros_parts (z : Nat → Bool) (hz : ∀ k, k ≤ W.length → (z k = true ↔ ∃ C, Cl W C ∧ C < 2 ^ W.length ∧ pc 8 C = k)) :
    ∀ (m left : Nat), pc 8 left ≤ m → Cl W left → left < 2 ^ W.length → cntB (pc 8 left) (fun i => z (i + 1)) = (spL W left).length
  | 0, left, hm, _, hl => by
    have h8 := pow_le8 W.length hT.h8
    have e : left = 0 := (pc_zero left (by omega)).1 (by omega)
    subst e
    rw [spL_zero]
    rfl
  | m + 1, left, hm, hC, hl => by
    have h8 := pow_le8 W.length hT.h8
    by_cases h0 : left = 0
    · subst h0
      rw [spL_zero]
      rfl
    · obtain ⟨q1, q2, q3, q4⟩ := rest_ok hT hC hl
      have q5 := q4 h0
      have ih := zeros_parts z hz m _ (by omega) q1 q2
      rw [spL_step hT hC hl h0, List.length_cons, ← ih]
      have hpn : pc 8 left ≤ W.length := by
        rw [pc_cntB, (cntB_same 8 W.length _ hT.h8).2 fun j h1 _ => by
          cases hb : left.testBit j with
          | false => rfl
          | true => have := bit_lt hl hb; omega]
        have : ∀ m (f : Nat → Bool), cntB m f ≤ m := fun m f => by
          induction m with
          | zero => exact Nat.le_refl _
          | succ m ih => rw [cntB]; split <;> omega
        exact this _ _
      obtain ⟨p, hp⟩ : ∃ p, pc 8 left = p + 1 := ⟨pc 8 left - 1, by omega⟩
      have htop : z (p + 1) = true := (hz (p + 1) (by omega)).2 ⟨left, hC, hl, hp⟩
      have hgap : cntB p (fun i => z (i + 1)) = cntB (pc 8 (left - firstS W left)) (fun i => z (i + 1)) := by
        refine (cntB_same _ _ _ (by omega)).2 fun j h1 h2 => ?_
        cases hzj : z (j + 1) with
        | false => rfl
        | true =>
          exfalso
          obtain ⟨C, c1, c2, c3⟩ := (hz (j + 1) (by omega)).1 hzj
          have hs := closed_chain hT c1 hC c2 hl (by omega)
          have hs2 : Sub C (left - firstS W left) := fun x hx => by
            have hxn := bit_lt c2 hx
            rw [q3 x, hs x hx, Bool.true_and]
            cases hb : (rc W x == left) with
            | false => rfl
            | true =>
              exfalso
              have e : rc W x = left := by simpa using hb
              have h5 := rc_min hT hxn c1 hx
              rw [e] at h5
              have := pc_mono h5
              omega
          have := pc_mono hs2
          omega
      rw [hp, cntB, hgap, htop]
      rfl
/-- The numbers of slack that are none are as many as the strong parts. -/
theorem zeros_is : cntB W.length (fun i => slk (lsq W) (i + 1) == 0) = (spL W (2 ^ W.length - 1)).length := by
  have h8 := hT.h8
  have hp : pc 8 (2 ^ W.length - 1) = W.length := by
    have : ∀ n, n < 9 → pc 8 (2 ^ n - 1) = n := by decide
    exact this _ (by omega)
  have := zeros_parts hT (fun k => slk (lsq W) k == 0) (fun k hk => by rw [beq_iff_eq]; exact zero_iff hT hk) 8 (2 ^ W.length - 1) (by omega) (cl_all hT) (by have := Nat.two_pow_pos W.length; omega)
  rwa [hp] at this
end
end Go.Proofs.Ytaocjjocncoahaa
