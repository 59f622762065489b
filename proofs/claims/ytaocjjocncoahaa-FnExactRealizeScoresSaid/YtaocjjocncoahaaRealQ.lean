/- RealizeScores, plain: what stands between two rounds; the least of those that are left. -/
import Derived.Test.YtaocjjocncoahaaRealP
namespace Go.Proofs.Ytaocjjocncoahaa
open Go.RowKit

structure RI (n : Nat) (f : Nat → Nat) (s : Nat → Int) (l : List Nat) : Prop where
  n8 : n ≤ 8
  nd : l.Nodup
  lt : ∀ x ∈ l, x < n
  lan : l = [] ∨ lanS (sortL (l.map s)) = true
  free : ∀ x ∈ l, ∀ y ∈ l, (f x).testBit y = false
  bnd : ∀ x, x < n → f x < 256
theorem RI.h16 {n : Nat} {f : Nat → Nat} {s : Nat → Int} {l : List Nat} (h : RI n f s l) : ∀ x ∈ l, x < 16 := fun x hx => by have := h.lt x hx; have := h.n8; omega
/-- What a round is about: p the least, os the others in their order. -/
structure RR (n : Nat) (f : Nat → Nat) (s : Nat → Int) (l : List Nat) (p : Nat) (os : List Nat) (K : Nat) : Prop where
  srt : srt s l = p :: os
  perm : (p :: os).Perm l
  nd : os.Nodup
  np : p ∉ os
  pn : p < n
  lt : ∀ x ∈ os, x < n
  val : s p = (K : Int)
  kle : K ≤ os.length
  lenl : l.length = os.length + 1
  asc : ∀ x ∈ os, ky s p ≤ ky s x
  asco : os.Pairwise fun x y => ky s x ≤ ky s y
  fpo : ∀ y ∈ os, (f p).testBit y = false
  fop : ∀ x ∈ os, (f x).testBit p = false
  foo : ∀ x ∈ os, ∀ y ∈ os, (f x).testBit y = false
  bnd : ∀ x ∈ os, 0 ≤ s x ∧ s x ≤ 7
  bndf : ∀ x, x < n → f x < 256
  l8 : os.length + 1 ≤ 8
  next : RI n (nT f p os K) (nS s os K) os
theorem os_map (s : Nat → Int) (os : List Nat) (K : Nat) (hn : os.Nodup) : os.map (nS s os K) = (os.map s).take K ++ ((os.map s).drop K).map (· - 1) := by
  have h1 : os.map (nS s os K) = (os.take K).map (nS s os K) ++ (os.drop K).map (nS s os K) := by rw [← List.map_append, List.take_append_drop]
  rw [h1, ← List.map_take, ← List.map_drop, List.map_map]
  have hd : ∀ x ∈ os.take K, x ∉ os.drop K := by
    intro x hx hy
    have hp := List.pairwise_append.1 (by rw [List.take_append_drop]; exact hn : ((os.take K) ++ (os.drop K)).Pairwise (· ≠ ·))
    exact hp.2.2 x hx x hy rfl
  congr 1
  · refine List.map_congr_left fun x hx => ?_
    unfold nS rS
    rw [List.take_length, if_neg (hd x hx)]
  · refine List.map_congr_left fun x hx => ?_
    unfold nS rS
    rw [List.take_length, if_pos hx]
    rfl
theorem bsN_lt (l : List Nat) (h : ∀ x ∈ l, x < 8) : bsN l < 256 := by
  refine Nat.lt_pow_two_of_testBit (n := 8) _ fun i hi => ?_
  rw [bsN_bit, decide_eq_false_iff_not]
  intro hm
  have := h i hm
  omega
theorem or_pow256 (x k : Nat) (hx : x < 256) (hk : k < 8) : x ||| 2 ^ k < 256 := Nat.or_lt_two_pow (n := 8) hx (Nat.pow_lt_pow_right (by omega) hk)
theorem rT_lt (n : Nat) (f : Nat → Nat) (p : Nat) (os : List Nat) (K i : Nat) (hp : p < 8) (ho : ∀ x ∈ os, x < 8) (hf : ∀ x, x < n → f x < 256) (x : Nat) (hx : x < n) : rT f p os K i x < 256 := by
  unfold rT
  split
  · rename_i e
    subst e
    exact Nat.or_lt_two_pow (n := 8) (hf x hx) (bsN_lt _ fun y hy => ho y (List.mem_of_mem_take hy))
  · split
    · exact or_pow256 _ _ (hf x hx) hp
    · exact hf x hx
theorem lan_bnd {q : List Int} (h : lanS q = true) (z : Int) (hz : z ∈ q) : 0 ≤ z ∧ z ≤ 7 := by
  unfold lanS at h
  simp only [Bool.and_eq_true, decide_eq_true_eq] at h
  obtain ⟨⟨⟨h1, h8⟩, hall⟩, _⟩ := h
  obtain ⟨i, hi, rfl⟩ := List.mem_iff_getElem.1 hz
  have := ((lanAt_iff q i hi).1 (List.all_eq_true.1 hall i (List.mem_range.2 hi))).1
  constructor <;> omega
theorem lan_len {q : List Int} (h : lanS q = true) : q.length ≤ 8 := by
  unfold lanS at h
  simp only [Bool.and_eq_true, decide_eq_true_eq] at h
  exact h.1.1.2
theorem RI.round {n : Nat} {f : Nat → Nat} {s : Nat → Int} {l : List Nat} (h : RI n f s l) (h0 : l ≠ []) : ∃ p os K, RR n f s l p os K := by
  have hpm := srt_perm s l h.h16
  cases hs : srt s l with
  | nil =>
    rw [hs] at hpm
    exact absurd hpm.symm.eq_nil h0
  | cons p os =>
    rw [hs] at hpm
    have hv := srt_vals s l h.h16
    rw [hs, List.map_cons] at hv
    have hl := h.lan.resolve_left h0
    rw [← hv] at hl
    obtain ⟨a1, a2, a3⟩ := lan_next _ _ hl
    rw [List.length_map] at a2
    have hnd : (p :: os).Nodup := hpm.nodup_iff.2 h.nd
    have hnd2 := List.nodup_cons.1 hnd
    have has := srt_asc s l h.h16
    rw [hs] at has
    have has2 := List.pairwise_cons.1 has
    have hmem : ∀ x ∈ os, x ∈ l := fun x hx => hpm.mem_iff.1 (List.mem_cons_of_mem _ hx)
    have hp : p ∈ l := hpm.mem_iff.1 (by simp)
    have h8 := h.n8
    have hK : s p = (((s p).toNat : Nat) : Int) := by omega
    refine ⟨p, os, (s p).toNat, hs, hpm, hnd2.2, hnd2.1, h.lt p hp, fun x hx => h.lt x (hmem x hx), hK, a2, by have := hpm.length_eq; simp at this; omega, has2.1, has2.2,
      fun y hy => h.free p hp y (hmem y hy), fun x hx => h.free x (hmem x hx) p hp, fun x hx y hy => h.free x (hmem x hx) y (hmem y hy), fun x hx => lan_bnd hl (s x) (List.mem_cons_of_mem _ (List.mem_map.2 ⟨x, hx, rfl⟩)), h.bnd, by have := lan_len hl; simpa using this, h8, hnd2.2, fun x hx => h.lt x (hmem x hx), ?_, ?_, ?_⟩
    · rcases a3 with a3 | a3
      · left; exact List.map_eq_nil_iff.1 a3
      · right
        rw [os_map s os _ hnd2.2]
        exact a3
    · intro x hx y hy
      have hxp : x ≠ p := fun e => hnd2.1 (e ▸ hx)
      have hyp : ¬ p = y := fun e => hnd2.1 (e ▸ hy)
      unfold nT rT
      rw [if_neg hxp]
      split
      · rw [Nat.testBit_or, h.free x (hmem x hx) y (hmem y hy), Nat.testBit_two_pow]; simp [hyp]
      · exact h.free x (hmem x hx) y (hmem y hy)
    · intro x hx
      have := h.lt p hp
      exact rT_lt n f p os _ _ (by omega) (fun y hy => by have := h.lt y (hmem y hy); omega) h.bnd x hx
/-- The bit that p gains is not there yet. -/
theorem RR.bit1 {n : Nat} {f : Nat → Nat} {s : Nat → Int} {l : List Nat} {p : Nat} {os : List Nat} {K : Nat} (h : RR n f s l p os K) (i : Nat) (hi : i < os.length) (hK : i < K) : (rT f p os K i p).testBit os[i] = false := by
  unfold rT
  rw [if_pos rfl, Nat.testBit_or, h.fpo _ (List.getElem_mem hi), bsN_bit, Nat.min_eq_left (by omega), Bool.false_or, decide_eq_false_iff_not]
  intro hm
  have := os_not h.nd hi 0
  rw [List.drop_zero] at this
  exact this hm
/-- The rounds from here, and behind the next. -/
theorem rz_next {n : Nat} {f : Nat → Nat} {s : Nat → Int} {l : List Nat} {p : Nat} {os : List Nat} {K : Nat} (h : RR n f s l p os K) : rz l.length f s l = rz os.length (nT f p os K) (nS s os K) os := by
  rw [h.lenl, rz, h.srt]
  simp only []
  rw [h.val, Int.toNat_natCast]
theorem rz_nil (f : Nat → Nat) (s : Nat → Int) : rz ([] : List Nat).length f s [] = f := rfl

/-! ### The least of those that are not hidden -/
def leastI (s : Nat → Int) (H : Nat → Bool) : Nat → Int
  | 0 => -1
  | k + 1 => if H k = false ∧ (leastI s H k < 0 ∨ s k < s (leastI s H k).toNat) then (k : Int) else leastI s H k
theorem leastI_is (s : Nat → Int) (H : Nat → Bool) : ∀ k, k ≤ 16 → ((∀ x, x < k → H x = true) ∧ leastI s H k = -1) ∨ ∃ b : Nat, leastI s H k = (b : Int) ∧ b < k ∧ H b = false ∧ ∀ x, x < k → H x = false → ky s b ≤ ky s x
  | 0, _ => .inl ⟨fun x hx => absurd hx (Nat.not_lt_zero _), rfl⟩
  | k + 1, hk => by
    rcases leastI_is s H k (by omega) with ⟨h1, h2⟩ | ⟨b, h1, h2, h3, h4⟩
    · rw [leastI, h2]
      by_cases hH : H k = false
      · rw [if_pos ⟨hH, .inl (by omega)⟩]
        refine .inr ⟨k, rfl, by omega, hH, fun x hx hx2 => ?_⟩
        by_cases e : x = k
        · subst e; exact Int.le_refl _
        · have := h1 x (by omega); rw [hx2] at this; cases this
      · rw [if_neg (fun h => hH h.1)]
        refine .inl ⟨fun x hx => ?_, rfl⟩
        by_cases e : x = k
        · subst e; simpa using hH
        · exact h1 x (by omega)
    · rw [leastI, h1, Int.toNat_natCast]
      by_cases hc : H k = false ∧ ((b : Int) < 0 ∨ s k < s b)
      · rw [if_pos hc]
        refine .inr ⟨k, rfl, by omega, hc.1, fun x hx hx2 => ?_⟩
        by_cases e : x = k
        · subst e; exact Int.le_refl _
        · have := h4 x (by omega) hx2
          have hkb : s k < s b := hc.2.resolve_left (by omega)
          unfold ky at this ⊢
          omega
      · rw [if_neg hc]
        refine .inr ⟨b, rfl, by omega, h3, fun x hx hx2 => ?_⟩
        by_cases e : x = k
        · subst e
          have : ¬ s x < s b := fun h => hc ⟨hx2, .inr h⟩
          unfold ky
          omega
        · exact h4 x (by omega) hx2
/-- The least is the head of the sorted row of those that are not hidden. -/
theorem leastI_head (n : Nat) (s : Nat → Int) (H : Nat → Bool) (o : Nat) (h8 : n ≤ 8) (ho : o < n) (hH : H o = false) (hm : ∀ x, x < n → H x = false → ky s o ≤ ky s x) : leastI s H n = (o : Int) := by
  rcases leastI_is s H n (by omega) with ⟨h1, _⟩ | ⟨b, h1, h2, h3, h4⟩
  · have := h1 o ho; rw [hH] at this; cases this
  · have e1 := h4 o ho hH
    have e2 := hm b h2 h3
    have : b = o := by unfold ky at e1 e2; omega
    rw [h1, this]

/-! ### What RealizeScores answers -/
def rzF (zs : List Int) : Nat → Nat := rz zs.length (fun _ => 0) (fun x => zs.getD x 0) (List.range zs.length)
def bRealizeScores (zs : List Int) : Bool := lanS (sortL zs)
def tRealizeScores (zs : List Int) : Int := if bRealizeScores zs then (zs.length : Int) else 0
def rRealizeScores (zs : List Int) : List Int := if bRealizeScores zs then casts (fl zs.length (rzF zs)) else []
theorem bReal_len {zs : List Int} (h : bRealizeScores zs = true) : 1 ≤ zs.length ∧ zs.length ≤ 8 := by
  unfold bRealizeScores lanS at h
  simp only [Bool.and_eq_true, decide_eq_true_eq, sortL_length] at h
  exact ⟨h.1.1.1, h.1.1.2⟩
theorem rRealizeScores_len (zs : List Int) : (rRealizeScores zs).length ≤ 1048576 := by
  unfold rRealizeScores
  split
  · rename_i h
    rw [casts_length, fl_length]
    have := bReal_len h
    omega
  · simp
theorem RI.start (zs : List Int) (h : bRealizeScores zs = true) : RI zs.length (fun _ => 0) (fun x => zs.getD x 0) (List.range zs.length) := by
  have h1 := bReal_len h
  refine ⟨h1.2, List.nodup_range, fun x hx => List.mem_range.1 hx, .inr ?_, fun _ _ _ _ => Nat.zero_testBit _, fun _ _ => by omega⟩
  show lanS (sortL (fz zs.length (fun x => zs.getD x 0))) = true
  rw [fz_of]
  exact h
end Go.Proofs.Ytaocjjocncoahaa
