/- RealizeScores, plain: the rounds. RealizeScores, plain: what stands between two rounds; the least of those that are left. -/
import Derived.Test.YtaocjjocncoahaaMg1
import Derived.Test.YtaocjjocncoahaaTourOf
namespace Go.Proofs.Ytaocjjocncoahaa
open Go.RowKit

/-! ### Rows as functions -/
def fl (n : Nat) (f : Nat → Nat) : List Nat := (List.range n).map f
def fz (n : Nat) (g : Nat → Int) : List Int := (List.range n).map g
theorem fl_length (n : Nat) (f : Nat → Nat) : (fl n f).length = n := by simp [fl]
theorem fz_length (n : Nat) (f : Nat → Int) : (fz n f).length = n := by simp [fz]
theorem fl_get (n : Nat) (f : Nat → Nat) (a : Nat) (h : a < (fl n f).length) : (fl n f)[a] = f a := by simp [fl]
theorem fz_get (n : Nat) (f : Nat → Int) (a : Nat) (h : a < (fz n f).length) : (fz n f)[a] = f a := by simp [fz]
theorem fl_set (n : Nat) (f : Nat → Nat) (a v : Nat) : (fl n f).set a v = fl n (fun x => if x = a then v else f x) := by
  apply List.ext_getElem
  · simp [fl]
  · intro i h1 h2
    rw [List.getElem_set]
    by_cases e : a = i
    · subst e; simp [fl]
    · have : ¬ i = a := fun h => e h.symm
      simp [fl, e, this]
theorem fz_set (n : Nat) (f : Nat → Int) (a : Nat) (v : Int) : (fz n f).set a v = fz n (fun x => if x = a then v else f x) := by
  apply List.ext_getElem
  · simp [fz]
  · intro i h1 h2
    rw [List.getElem_set]
    by_cases e : a = i
    · subst e; simp [fz]
    · have : ¬ i = a := fun h => e h.symm
      simp [fz, e, this]
theorem fl_congr (n : Nat) (f g : Nat → Nat) (h : ∀ x, x < n → f x = g x) : fl n f = fl n g := List.map_congr_left fun x hx => h x (List.mem_range.1 hx)
theorem fz_congr (n : Nat) (f g : Nat → Int) (h : ∀ x, x < n → f x = g x) : fz n f = fz n g := List.map_congr_left fun x hx => h x (List.mem_range.1 hx)
theorem fz_of (zs : List Int) : fz zs.length (fun x => zs.getD x 0) = zs := by
  apply List.ext_getElem
  · simp [fz]
  · intro i h1 h2
    rw [fz_get, getD_lt _ _ _ h2]

/-! ### The order of the players that are left -/
/-- First by the number, then by the name. -/
def ky (s : Nat → Int) (x : Nat) : Int := 16 * s x + (x : Int)
def srt (s : Nat → Int) (l : List Nat) : List Nat := (sortL (l.map (ky s))).map fun z => (z % 16).toNat
theorem ky_back (s : Nat → Int) (x : Nat) (h : x < 16) : (ky s x % 16).toNat = x := by unfold ky; omega
theorem srt_is (s : Nat → Int) (l L : List Nat) (hp : L.Perm l) (h16 : ∀ x ∈ l, x < 16) (ha : ∀ p q, p < q → q < L.length → ky s (L.getD p 0) ≤ ky s (L.getD q 0)) : L = srt s l := by
  have h1 : L.map (ky s) = sortL (l.map (ky s)) := sorted_is (by
    rw [Asc, List.pairwise_iff_getElem]
    intro i j hi hj hij
    rw [List.length_map] at hi hj
    have := ha i j hij hj
    rw [getD_lt _ _ _ hi, getD_lt _ _ _ hj] at this
    simpa using this) (hp.map _)
  unfold srt
  rw [← h1, List.map_map]
  symm
  have : ∀ x ∈ L, ((fun z : Int => (z % 16).toNat) ∘ ky s) x = id x := fun x hx => ky_back s x (h16 x (hp.mem_iff.1 hx))
  rw [List.map_congr_left this, List.map_id]
theorem srt_perm (s : Nat → Int) (l : List Nat) (h16 : ∀ x ∈ l, x < 16) : (srt s l).Perm l := by
  have h1 := (sortL_perm (l.map (ky s))).map fun z : Int => (z % 16).toNat
  rw [List.map_map] at h1
  have : ∀ x ∈ l, ((fun z : Int => (z % 16).toNat) ∘ ky s) x = id x := fun x hx => ky_back s x (h16 x hx)
  rw [List.map_congr_left this, List.map_id] at h1
  exact h1
theorem srt_keys (s : Nat → Int) (l : List Nat) (h16 : ∀ x ∈ l, x < 16) : (srt s l).map (ky s) = sortL (l.map (ky s)) := by
  unfold srt
  rw [List.map_map]
  have : ∀ z ∈ sortL (l.map (ky s)), (ky s ∘ fun z : Int => (z % 16).toNat) z = id z := fun z hz => by
    obtain ⟨x, hx, rfl⟩ := List.mem_map.1 ((sortL_perm _).mem_iff.1 hz)
    show ky s ((ky s x % 16).toNat) = ky s x
    rw [ky_back s x (h16 x hx)]
  rw [List.map_congr_left this, List.map_id]
theorem srt_asc (s : Nat → Int) (l : List Nat) (h16 : ∀ x ∈ l, x < 16) : (srt s l).Pairwise fun x y => ky s x ≤ ky s y := by
  have h := sortL_asc (l.map (ky s))
  rw [← srt_keys s l h16, Asc, List.pairwise_map] at h
  exact h
theorem ky_le (s : Nat → Int) (x y : Nat) (hx : x < 16) (hy : y < 16) (h : ky s x ≤ ky s y) : s x ≤ s y := by unfold ky at h; omega
theorem srt_vals (s : Nat → Int) (l : List Nat) (h16 : ∀ x ∈ l, x < 16) : (srt s l).map s = sortL (l.map s) := sorted_is (by
  have hp := srt_perm s l h16
  rw [Asc, List.pairwise_map]
  refine List.Pairwise.imp_of_mem ?_ (srt_asc s l h16)
  intro a b ha hb h
  exact ky_le s a b (h16 a (hp.mem_iff.1 ha)) (h16 b (hp.mem_iff.1 hb)) h) ((srt_perm s l h16).map s)

/-! ### One round -/
def bsN (l : List Nat) : Nat := l.foldl (fun a o => a ||| 2 ^ o) 0
theorem bsN_snoc (l : List Nat) (o : Nat) : bsN (l ++ [o]) = bsN l ||| 2 ^ o := by unfold bsN; rw [List.foldl_append]; rfl
theorem bsN_go (l : List Nat) : ∀ (a j : Nat), (l.foldl (fun a o => a ||| 2 ^ o) a).testBit j = (a.testBit j || decide (j ∈ l)) := by
  induction l with
  | nil => intro a j; simp
  | cons x l ih =>
    intro a j
    rw [List.foldl_cons, ih, Nat.testBit_or, Nat.testBit_two_pow]
    by_cases e : x = j
    · subst e; simp
    · have : ¬ j = x := fun h => e h.symm
      simp [e, this]
theorem bsN_bit (l : List Nat) (j : Nat) : (bsN l).testBit j = decide (j ∈ l) := by unfold bsN; rw [bsN_go]; simp
/-- The rows, and the numbers, when i of the others have been dealt with: the first K are beaten by p. -/
def rT (f : Nat → Nat) (p : Nat) (os : List Nat) (K i : Nat) (x : Nat) : Nat :=
  if x = p then f p ||| bsN (os.take (min i K)) else if x ∈ (os.take i).drop K then f x ||| 2 ^ p else f x
def rS (s : Nat → Int) (os : List Nat) (K i : Nat) (x : Nat) : Int := if x ∈ (os.take i).drop K then s x - 1 else s x
theorem rT_zero (f : Nat → Nat) (p : Nat) (os : List Nat) (K x : Nat) : rT f p os K 0 x = f x := by
  unfold rT
  split
  · rename_i e; subst e; simp [bsN]
  · simp
theorem rS_zero (s : Nat → Int) (os : List Nat) (K x : Nat) : rS s os K 0 x = s x := by simp [rS]
theorem take_lo (os : List Nat) (K i : Nat) (h : i ≤ K) : (os.take i).drop K = [] := List.drop_eq_nil_of_le (by rw [List.length_take]; omega)
theorem take_hi (os : List Nat) (K i : Nat) (h : K ≤ i) (hi : i < os.length) : (os.take (i + 1)).drop K = (os.take i).drop K ++ [os[i]] := by
  rw [List.take_succ_eq_append_getElem hi, List.drop_append_of_le_length (by rw [List.length_take]; omega)]
theorem os_not {os : List Nat} (hn : os.Nodup) {i : Nat} (hi : i < os.length) (K : Nat) : os[i] ∉ (os.take i).drop K := fun h => by
  have h1 := List.mem_of_mem_drop h
  obtain ⟨j, hj, e⟩ := List.mem_iff_getElem.1 h1
  rw [List.length_take] at hj
  rw [List.getElem_take] at e
  exact absurd e (List.pairwise_iff_getElem.1 hn j i (by omega) hi (by omega))
/-- One of the first K: p beats him. -/
theorem rT_win (n : Nat) (f : Nat → Nat) (p : Nat) (os : List Nat) (K i : Nat) (hi : i < os.length) (hK : i < K) : (fl n (rT f p os K i)).set p (rT f p os K i p ||| 2 ^ os[i]) = fl n (rT f p os K (i + 1)) := by
  rw [fl_set]
  refine fl_congr n _ _ fun x _ => ?_
  by_cases e : x = p
  · subst e
    rw [if_pos rfl]
    unfold rT
    rw [if_pos rfl, if_pos rfl, Nat.min_eq_left (by omega), Nat.min_eq_left (by omega), List.take_succ_eq_append_getElem hi, bsN_snoc, Nat.or_assoc]
  · rw [if_neg e]
    unfold rT
    rw [if_neg e, if_neg e, take_lo os K i (by omega), take_lo os K (i + 1) (by omega)]
theorem rS_win (n : Nat) (s : Nat → Int) (os : List Nat) (K i : Nat) (hK : i < K) : fz n (rS s os K (i + 1)) = fz n (rS s os K i) := fz_congr n _ _ fun x _ => by
  unfold rS
  rw [take_lo os K i (by omega), take_lo os K (i + 1) (by omega)]
/-- One behind them: he beats p, and his number falls. -/
theorem rT_lose (n : Nat) (f : Nat → Nat) (p : Nat) (os : List Nat) (K i : Nat) (hn : os.Nodup) (hp : p ∉ os) (hi : i < os.length) (hK : K ≤ i) : (fl n (rT f p os K i)).set os[i] (rT f p os K i os[i] ||| 2 ^ p) = fl n (rT f p os K (i + 1)) := by
  have hne : os[i] ≠ p := fun e => hp (e ▸ List.getElem_mem hi)
  rw [fl_set]
  refine fl_congr n _ _ fun x _ => ?_
  by_cases e : x = os[i]
  · subst e
    rw [if_pos rfl]
    unfold rT
    rw [if_neg hne, if_neg hne, if_neg (os_not hn hi K), take_hi os K i hK hi, if_pos (by simp)]
  · rw [if_neg e]
    unfold rT
    by_cases e2 : x = p
    · rw [if_pos e2, if_pos e2, Nat.min_eq_right hK, Nat.min_eq_right (by omega)]
    · rw [if_neg e2, if_neg e2, take_hi os K i hK hi]
      simp [e]
theorem rS_lose (n : Nat) (s : Nat → Int) (os : List Nat) (K i : Nat) (hn : os.Nodup) (hi : i < os.length) (hK : K ≤ i) : (fz n (rS s os K i)).set os[i] (rS s os K i os[i] - 1) = fz n (rS s os K (i + 1)) := by
  rw [fz_set]
  refine fz_congr n _ _ fun x _ => ?_
  by_cases e : x = os[i]
  · subst e
    rw [if_pos rfl]
    unfold rS
    rw [if_neg (os_not hn hi K), take_hi os K i hK hi, if_pos (by simp)]
  · rw [if_neg e]
    unfold rS
    rw [take_hi os K i hK hi]
    simp [e]
/-- The rows and the numbers behind a round. -/
def nT (f : Nat → Nat) (p : Nat) (os : List Nat) (K : Nat) : Nat → Nat := rT f p os K os.length
def nS (s : Nat → Int) (os : List Nat) (K : Nat) : Nat → Int := rS s os K os.length
/-- The rounds: f the rows, s the numbers, l those that are left. -/
def rz : Nat → (Nat → Nat) → (Nat → Int) → List Nat → Nat → Nat
  | 0, f, _, _ => f
  | m + 1, f, s, l => match srt s l with
    | [] => f
    | p :: os => rz m (nT f p os (s p).toNat) (nS s os (s p).toNat) os

end Go.Proofs.Ytaocjjocncoahaa

namespace Go.Proofs.Ytaocjjocncoahaa
open Go.RowKit

structure RI (n : Nat) (f : Nat → Nat) (s : Nat → Int) (l : List Nat) : Prop where
  n8 : n ≤ 8
  nd : l.Nodup
  lt : ∀ x ∈ l, x < n
  lan : l = [] ∨ lanS (sortL (l.map s)) = true
  free : ∀ x ∈ l, ∀ y ∈ l, (f x).testBit y = false
  bnd : ∀ x, x < n → f x < 256
theorem RI.h16 {n : Nat} {f : Nat → Nat} {s : Nat → Int} {l : List Nat} (h : RI n f s l) : ∀ x ∈ l, x < 16 := fun x hx => by have := h.lt x hx; have := h.n8; omega
/-- What a round is about: p the least, os the others in their order. -/
structure RR (n : Nat) (f : Nat → Nat) (s : Nat → Int) (l : List Nat) (p : Nat) (os : List Nat) (K : Nat) : Prop where
  srt : srt s l = p :: os
  perm : (p :: os).Perm l
  nd : os.Nodup
  np : p ∉ os
  pn : p < n
  lt : ∀ x ∈ os, x < n
  val : s p = (K : Int)
  kle : K ≤ os.length
  lenl : l.length = os.length + 1
  asc : ∀ x ∈ os, ky s p ≤ ky s x
  asco : os.Pairwise fun x y => ky s x ≤ ky s y
  fpo : ∀ y ∈ os, (f p).testBit y = false
  fop : ∀ x ∈ os, (f x).testBit p = false
  foo : ∀ x ∈ os, ∀ y ∈ os, (f x).testBit y = false
  bnd : ∀ x ∈ os, 0 ≤ s x ∧ s x ≤ 7
  bndf : ∀ x, x < n → f x < 256
  l8 : os.length + 1 ≤ 8
  next : RI n (nT f p os K) (nS s os K) os
theorem os_map (s : Nat → Int) (os : List Nat) (K : Nat) (hn : os.Nodup) : os.map (nS s os K) = (os.map s).take K ++ ((os.map s).drop K).map (· - 1) := by
  have h1 : os.map (nS s os K) = (os.take K).map (nS s os K) ++ (os.drop K).map (nS s os K) := by rw [← List.map_append, List.take_append_drop]
  rw [h1, ← List.map_take, ← List.map_drop, List.map_map]
  have hd : ∀ x ∈ os.take K, x ∉ os.drop K := by
    intro x hx hy
    have hp := List.pairwise_append.1 (by rw [List.take_append_drop]; exact hn : ((os.take K) ++ (os.drop K)).Pairwise (· ≠ ·))
    exact hp.2.2 x hx x hy rfl
  congr 1
  · refine List.map_congr_left fun x hx => ?_
    unfold nS rS
    rw [List.take_length, if_neg (hd x hx)]
  · refine List.map_congr_left fun x hx => ?_
    unfold nS rS
    rw [List.take_length, if_pos hx]
    rfl
theorem bsN_lt (l : List Nat) (h : ∀ x ∈ l, x < 8) : bsN l < 256 := by
  refine Nat.lt_pow_two_of_testBit (n := 8) _ fun i hi => ?_
  rw [bsN_bit, decide_eq_false_iff_not]
  intro hm
  have := h i hm
  omega
theorem or_pow256 (x k : Nat) (hx : x < 256) (hk : k < 8) : x ||| 2 ^ k < 256 := Nat.or_lt_two_pow (n := 8) hx (Nat.pow_lt_pow_right (by omega) hk)
theorem rT_lt (n : Nat) (f : Nat → Nat) (p : Nat) (os : List Nat) (K i : Nat) (hp : p < 8) (ho : ∀ x ∈ os, x < 8) (hf : ∀ x, x < n → f x < 256) (x : Nat) (hx : x < n) : rT f p os K i x < 256 := by
  unfold rT
  split
  · rename_i e
    subst e
    exact Nat.or_lt_two_pow (n := 8) (hf x hx) (bsN_lt _ fun y hy => ho y (List.mem_of_mem_take hy))
  · split
    · exact or_pow256 _ _ (hf x hx) hp
    · exact hf x hx
theorem lan_bnd {q : List Int} (h : lanS q = true) (z : Int) (hz : z ∈ q) : 0 ≤ z ∧ z ≤ 7 := by
  unfold lanS at h
  simp only [Bool.and_eq_true, decide_eq_true_eq] at h
  obtain ⟨⟨⟨h1, h8⟩, hall⟩, _⟩ := h
  obtain ⟨i, hi, rfl⟩ := List.mem_iff_getElem.1 hz
  have := ((lanAt_iff q i hi).1 (List.all_eq_true.1 hall i (List.mem_range.2 hi))).1
  constructor <;> omega
theorem lan_len {q : List Int} (h : lanS q = true) : q.length ≤ 8 := by
  unfold lanS at h
  simp only [Bool.and_eq_true, decide_eq_true_eq] at h
  exact h.1.1.2
theorem RI.round {n : Nat} {f : Nat → Nat} {s : Nat → Int} {l : List Nat} (h : RI n f s l) (h0 : l ≠ []) : ∃ p os K, RR n f s l p os K := by
  have hpm := srt_perm s l h.h16
  cases hs : srt s l with
  | nil =>
    rw [hs] at hpm
    exact absurd hpm.symm.eq_nil h0
  | cons p os =>
    rw [hs] at hpm
    have hv := srt_vals s l h.h16
    rw [hs, List.map_cons] at hv
    have hl := h.lan.resolve_left h0
    rw [← hv] at hl
    obtain ⟨a1, a2, a3⟩ := lan_next _ _ hl
    rw [List.length_map] at a2
    have hnd : (p :: os).Nodup := hpm.nodup_iff.2 h.nd
    have hnd2 := List.nodup_cons.1 hnd
    have has := srt_asc s l h.h16
    rw [hs] at has
    have has2 := List.pairwise_cons.1 has
    have hmem : ∀ x ∈ os, x ∈ l := fun x hx => hpm.mem_iff.1 (List.mem_cons_of_mem _ hx)
    have hp : p ∈ l := hpm.mem_iff.1 (by simp)
    have h8 := h.n8
    have hK : s p = (((s p).toNat : Nat) : Int) := by omega
    refine ⟨p, os, (s p).toNat, hs, hpm, hnd2.2, hnd2.1, h.lt p hp, fun x hx => h.lt x (hmem x hx), hK, a2, by have := hpm.length_eq; simp at this; omega, has2.1, has2.2,
      fun y hy => h.free p hp y (hmem y hy), fun x hx => h.free x (hmem x hx) p hp, fun x hx y hy => h.free x (hmem x hx) y (hmem y hy), fun x hx => lan_bnd hl (s x) (List.mem_cons_of_mem _ (List.mem_map.2 ⟨x, hx, rfl⟩)), h.bnd, by have := lan_len hl; simpa using this, h8, hnd2.2, fun x hx => h.lt x (hmem x hx), ?_, ?_, ?_⟩
    · rcases a3 with a3 | a3
      · left; exact List.map_eq_nil_iff.1 a3
      · right
        rw [os_map s os _ hnd2.2]
        exact a3
    · intro x hx y hy
      have hxp : x ≠ p := fun e => hnd2.1 (e ▸ hx)
      have hyp : ¬ p = y := fun e => hnd2.1 (e ▸ hy)
      unfold nT rT
      rw [if_neg hxp]
      split
      · rw [Nat.testBit_or, h.free x (hmem x hx) y (hmem y hy), Nat.testBit_two_pow]; simp [hyp]
      · exact h.free x (hmem x hx) y (hmem y hy)
    · intro x hx
      have := h.lt p hp
      exact rT_lt n f p os _ _ (by omega) (fun y hy => by have := h.lt y (hmem y hy); omega) h.bnd x hx
/-- The bit that p gains is not there yet. -/
theorem RR.bit1 {n : Nat} {f : Nat → Nat} {s : Nat → Int} {l : List Nat} {p : Nat} {os : List Nat} {K : Nat} (h : RR n f s l p os K) (i : Nat) (hi : i < os.length) (hK : i < K) : (rT f p os K i p).testBit os[i] = false := by
  unfold rT
  rw [if_pos rfl, Nat.testBit_or, h.fpo _ (List.getElem_mem hi), bsN_bit, Nat.min_eq_left (by omega), Bool.false_or, decide_eq_false_iff_not]
  intro hm
  have := os_not h.nd hi 0
  rw [List.drop_zero] at this
  exact this hm
/-- The rounds from here, and behind the next. -/
theorem rz_next {n : Nat} {f : Nat → Nat} {s : Nat → Int} {l : List Nat} {p : Nat} {os : List Nat} {K : Nat} (h : RR n f s l p os K) : rz l.length f s l = rz os.length (nT f p os K) (nS s os K) os := by
  rw [h.lenl, rz, h.srt]
  simp only []
  rw [h.val, Int.toNat_natCast]
theorem rz_nil (f : Nat → Nat) (s : Nat → Int) : rz ([] : List Nat).length f s [] = f := rfl

/-! ### The least of those that are not hidden -/
def leastI (s : Nat → Int) (H : Nat → Bool) : Nat → Int
  | 0 => -1
  | k + 1 => if H k = false ∧ (leastI s H k < 0 ∨ s k < s (leastI s H k).toNat) then (k : Int) else leastI s H k
theorem leastI_is (s : Nat → Int) (H : Nat → Bool) : ∀ k, k ≤ 16 → ((∀ x, x < k → H x = true) ∧ leastI s H k = -1) ∨ ∃ b : Nat, leastI s H k = (b : Int) ∧ b < k ∧ H b = false ∧ ∀ x, x < k → H x = false → ky s b ≤ ky s x
  | 0, _ => .inl ⟨fun x hx => absurd hx (Nat.not_lt_zero _), rfl⟩
  | k + 1, hk => by
    rcases leastI_is s H k (by omega) with ⟨h1, h2⟩ | ⟨b, h1, h2, h3, h4⟩
    · rw [leastI, h2]
      by_cases hH : H k = false
      · rw [if_pos ⟨hH, .inl (by omega)⟩]
        refine .inr ⟨k, rfl, by omega, hH, fun x hx hx2 => ?_⟩
        by_cases e : x = k
        · subst e; exact Int.le_refl _
        · have := h1 x (by omega); rw [hx2] at this; cases this
      · rw [if_neg (fun h => hH h.1)]
        refine .inl ⟨fun x hx => ?_, rfl⟩
        by_cases e : x = k
        · subst e; simpa using hH
        · exact h1 x (by omega)
    · rw [leastI, h1, Int.toNat_natCast]
      by_cases hc : H k = false ∧ ((b : Int) < 0 ∨ s k < s b)
      · rw [if_pos hc]
        refine .inr ⟨k, rfl, by omega, hc.1, fun x hx hx2 => ?_⟩
        by_cases e : x = k
        · subst e; exact Int.le_refl _
        · have := h4 x (by omega) hx2
          have hkb : s k < s b := hc.2.resolve_left (by omega)
          unfold ky at this ⊢
          omega
      · rw [if_neg hc]
        refine .inr ⟨b, rfl, by omega, h3, fun x hx hx2 => ?_⟩
        by_cases e : x = k
        · subst e
          have : ¬ s x < s b := fun h => hc ⟨hx2, .inr h⟩
          unfold ky
          omega
        · exact h4 x (by omega) hx2
/-- The least is the head of the sorted row of those that are not hidden. -/
theorem leastI_head (n : Nat) (s : Nat → Int) (H : Nat → Bool) (o : Nat) (h8 : n ≤ 8) (ho : o < n) (hH : H o = false) (hm : ∀ x, x < n → H x = false → ky s o ≤ ky s x) : leastI s H n = (o : Int) := by
  rcases leastI_is s H n (by omega) with ⟨h1, _⟩ | ⟨b, h1, h2, h3, h4⟩
  · have := h1 o ho; rw [hH] at this; cases this
  · have e1 := h4 o ho hH
    have e2 := hm b h2 h3
    have : b = o := by unfold ky at e1 e2; omega
    rw [h1, this]

/-! ### What RealizeScores answers -/
def rzF (zs : List Int) : Nat → Nat := rz zs.length (fun _ => 0) (fun x => zs.getD x 0) (List.range zs.length)
def bRealizeScores (zs : List Int) : Bool := lanS (sortL zs)
def tRealizeScores (zs : List Int) : Int := if bRealizeScores zs then (zs.length : Int) else 0
def rRealizeScores (zs : List Int) : List Int := if bRealizeScores zs then casts (fl zs.length (rzF zs)) else []
theorem bReal_len {zs : List Int} (h : bRealizeScores zs = true) : 1 ≤ zs.length ∧ zs.length ≤ 8 := by
  unfold bRealizeScores lanS at h
  simp only [Bool.and_eq_true, decide_eq_true_eq, sortL_length] at h
  exact ⟨h.1.1.1, h.1.1.2⟩
theorem rRealizeScores_len (zs : List Int) : (rRealizeScores zs).length ≤ 1048576 := by
  unfold rRealizeScores
  split
  · rename_i h
    rw [casts_length, fl_length]
    have := bReal_len h
    omega
  · simp
theorem RI.start (zs : List Int) (h : bRealizeScores zs = true) : RI zs.length (fun _ => 0) (fun x => zs.getD x 0) (List.range zs.length) := by
  have h1 := bReal_len h
  refine ⟨h1.2, List.nodup_range, fun x hx => List.mem_range.1 hx, .inr ?_, fun _ _ _ _ => Nat.zero_testBit _, fun _ _ => by omega⟩
  show lanS (sortL (fz zs.length (fun x => zs.getD x 0))) = true
  rw [fz_of]
  exact h
end Go.Proofs.Ytaocjjocncoahaa
