/- RealizeScores, plain: the rows that the rounds build are a valid tour's, and its scores are the numbers. -/
import Derived.Test.YtaocjjocncoahaaMg2
import Derived.Test.YtaocjjocncoahaaReach
namespace Go.Proofs.Ytaocjjocncoahaa
open Go.RowKit

theorem pc_or (x k : Nat) (hk : k < 8) (h : x.testBit k = false) : pc 8 (x ||| 2 ^ k) = pc 8 x + 1 := by
  rw [pc_cntB, pc_cntB, cntB_remove 8 k _ hk (by simp)]
  congr 1
  refine cntB_congr 8 _ _ fun i _ => ?_
  rw [Nat.testBit_or, Nat.testBit_two_pow]
  by_cases e : k = i
  · subst e; simp [h]
  · have : ¬ i = k := fun h => e h.symm
    simp [e, this]
theorem pc_ors (x : Nat) (os : List Nat) (hn : os.Nodup) (h8 : ∀ y ∈ os, y < 8) (hx : ∀ y ∈ os, x.testBit y = false) : ∀ K, K ≤ os.length → pc 8 (x ||| bsN (os.take K)) = pc 8 x + K
  | 0, _ => by simp [bsN]
  | K + 1, hK => by
    have hi : K < os.length := by omega
    rw [List.take_succ_eq_append_getElem hi, bsN_snoc, ← Nat.or_assoc, pc_or _ _ (h8 _ (List.getElem_mem hi)), pc_ors x os hn h8 hx K (by omega)]
    · omega
    · rw [Nat.testBit_or, hx _ (List.getElem_mem hi), bsN_bit, Bool.false_or, decide_eq_false_iff_not]
      intro hm
      have := os_not hn hi 0
      rw [List.drop_zero] at this
      exact this hm
/-- What the rows are towards the numbers z. -/
structure RV (n : Nat) (z : Nat → Int) (f : Nat → Nat) (s : Nat → Int) (l : List Nat) : Prop where
  done : ∀ x, x < n → x ∉ l → (pc 8 (f x) : Int) = z x
  left : ∀ x, x ∈ l → (pc 8 (f x) : Int) + s x = z x
  self : ∀ x, x < n → (f x).testBit x = false
  pair : ∀ x y, x < n → y < n → x ≠ y → (x ∉ l ∨ y ∉ l) → (f x).testBit y = !(f y).testBit x
  lt : ∀ x, x < n → ∀ y, n ≤ y → (f x).testBit y = false
/-- A row's bits behind a round. -/
theorem nT_p (f : Nat → Nat) (p : Nat) (os : List Nat) (K y : Nat) (hK : K ≤ os.length) : (nT f p os K p).testBit y = ((f p).testBit y || decide (y ∈ os.take K)) := by
  unfold nT rT
  rw [if_pos rfl, Nat.testBit_or, bsN_bit, Nat.min_eq_right hK]
theorem nT_x (f : Nat → Nat) (p : Nat) (os : List Nat) (K x y : Nat) (hx : x ≠ p) : (nT f p os K x).testBit y = ((f x).testBit y || (decide (x ∈ os.drop K) && decide (y = p))) := by
  unfold nT rT
  rw [if_neg hx, List.take_length]
  split
  · rename_i h
    rw [Nat.testBit_or, Nat.testBit_two_pow]
    simp only [h, decide_true, Bool.true_and]
    congr 1
    exact decide_eq_decide.2 eq_comm
  · rename_i h
    simp [h]
theorem take_drop {os : List Nat} (hn : os.Nodup) (K : Nat) {y : Nat} (hy : y ∈ os) : y ∈ os.take K ↔ y ∉ os.drop K := by
  have hp := List.pairwise_append.1 (by rw [List.take_append_drop]; exact hn : ((os.take K) ++ (os.drop K)).Pairwise (· ≠ ·))
  constructor
  · exact fun h1 h2 => hp.2.2 y h1 y h2 rfl
  · intro h
    have := List.mem_append.1 (by rw [List.take_append_drop]; exact hy : y ∈ os.take K ++ os.drop K)
    exact this.resolve_right h
theorem RV.step {n : Nat} {z : Nat → Int} {f : Nat → Nat} {s : Nat → Int} {l : List Nat} {p : Nat} {os : List Nat} {K : Nat} (h : RV n z f s l) (r : RR n f s l p os K) (h8 : n ≤ 8) : RV n z (nT f p os K) (nS s os K) os := by
  have hpl : p ∈ l := r.perm.mem_iff.1 (by simp)
  have hol : ∀ x, x ∈ os → x ∈ l := fun x hx => r.perm.mem_iff.1 (List.mem_cons_of_mem _ hx)
  have hlo : ∀ x, x ≠ p → x ∉ os → x ∉ l := fun x h1 h2 hx => by
    have := r.perm.mem_iff.2 hx
    rcases List.mem_cons.1 this with e | e
    · exact h1 e
    · exact h2 e
  have hd : ∀ x, x ∉ os → x ∉ os.drop K := fun x hx h => hx (List.mem_of_mem_drop h)
  have hsame : ∀ x, x ≠ p → x ∉ os.drop K → nT f p os K x = f x := fun x hx hxd => by
    unfold nT rT
    rw [if_neg hx, List.take_length, if_neg hxd]
  have hpo : ∀ x, x ∈ os → x ≠ p := fun x hx e => r.np (e ▸ hx)
  have key : ∀ y, y < n → y ≠ p → (nT f p os K p).testBit y = !(nT f p os K y).testBit p := fun y hy hyp => by
    rw [nT_p f p os K y r.kle, nT_x f p os K y p hyp]
    by_cases hyo : y ∈ os
    · rw [r.fpo y hyo, r.fop y hyo]
      have := take_drop r.nd K hyo
      by_cases e : y ∈ os.drop K
      · have e2 : y ∉ os.take K := fun h => this.1 h e
        simp [e, e2]
      · have e2 := this.2 e
        simp [e, e2]
    · have e1 : y ∉ os.take K := fun h => hyo (List.mem_of_mem_take h)
      have e2 := hd y hyo
      simp only [e1, e2, decide_false, Bool.false_and, Bool.or_false]
      exact h.pair p y r.pn hy (fun e => hyp e.symm) (.inr (hlo y hyp hyo))
  refine ⟨fun x hx hxo => ?_, fun x hxo => ?_, fun x hx => ?_, fun x y hx hy hne hor => ?_, fun x hx y hy => ?_⟩
  · by_cases e : x = p
    · subst e
      have h1 := h.left x hpl
      have h2 := r.val
      have h3 : nT f x os K x = f x ||| bsN (os.take K) := by
        unfold nT rT
        rw [if_pos rfl, Nat.min_eq_right r.kle]
      rw [h3, pc_ors (f x) os r.nd (fun y hy => by have := r.lt y hy; omega) r.fpo K r.kle]
      omega
    · rw [hsame x e (hd x hxo)]
      exact h.done x hx (hlo x e hxo)
  · have h1 := h.left x (hol x hxo)
    have hne := hpo x hxo
    unfold nS rS
    rw [List.take_length]
    by_cases e : x ∈ os.drop K
    · rw [if_pos e]
      have h3 : nT f p os K x = f x ||| 2 ^ p := by
        unfold nT rT
        rw [if_neg hne, List.take_length, if_pos e]
      rw [h3, pc_or _ _ (by have := r.pn; omega) (r.fop x hxo)]
      omega
    · rw [if_neg e, hsame x hne e]
      exact h1
  · by_cases e : x = p
    · subst e
      have : x ∉ os.take K := fun h => r.np (List.mem_of_mem_take h)
      rw [nT_p f x os K x r.kle, h.self x hx]
      simp [this]
    · rw [nT_x f p os K x x e, h.self x hx]
      simp [e]
  · by_cases e : x = p
    · subst e
      exact key y hy (fun e => hne e.symm)
    · by_cases e2 : y = p
      · subst e2
        rw [key x hx e, Bool.not_not]
      · rw [nT_x f p os K x y e, nT_x f p os K y x e2]
        simp only [e, e2, decide_false, Bool.and_false, Bool.or_false]
        refine h.pair x y hx hy hne ?_
        rcases hor with h1 | h1
        · exact .inl (hlo x e h1)
        · exact .inr (hlo y e2 h1)
  · by_cases e : x = p
    · subst e
      have : y ∉ os.take K := fun h => by have := r.lt y (List.mem_of_mem_take h); omega
      rw [nT_p f x os K y r.kle, h.lt x hx y hy]
      simp [this]
    · have : ¬ y = p := fun e => by have := r.pn; omega
      rw [nT_x f p os K x y e, h.lt x hx y hy]
      simp [this]
theorem rz_rv {n : Nat} {z : Nat → Int} (h8 : n ≤ 8) : ∀ (m : Nat) (f : Nat → Nat) (s : Nat → Int) (l : List Nat), l.length = m → RI n f s l → RV n z f s l → RV n z (rz l.length f s l) s []
  | 0, f, s, l, hm, _, hv => by
    obtain rfl := List.length_eq_zero_iff.1 hm
    exact hv
  | m + 1, f, s, l, hm, hi, hv => by
    obtain ⟨p, os, K, r⟩ := hi.round (fun e => by subst e; simp at hm)
    rw [rz_next r]
    have := rz_rv h8 m _ _ os (by have := r.lenl; omega) r.next (hv.step r h8)
    exact ⟨this.done, fun x hx => by simp at hx, this.self, this.pair, this.lt⟩
/-- The rows are a valid tour's, and its scores are the numbers. -/
theorem real_tour (zs : List Int) (h : bRealizeScores zs = true) : IsT (fl zs.length (rzF zs)) ∧ casts (scL (fl zs.length (rzF zs))) = zs := by
  obtain ⟨h1, h8⟩ := bReal_len h
  have hv := rz_rv (z := fun x => zs.getD x 0) h8 _ _ _ _ rfl (RI.start zs h) ⟨fun x hx hn => absurd (List.mem_range.2 hx) hn, fun x _ => by
    have : pc 8 0 = 0 := by decide
    simp [this], fun x _ => by simp, fun x y hx hy _ hor => by
      rcases hor with h | h
      · exact absurd (List.mem_range.2 hx) h
      · exact absurd (List.mem_range.2 hy) h, fun x _ y _ => by simp⟩
  rw [List.length_range] at hv
  have hg : ∀ i, i < zs.length → (fl zs.length (rzF zs)).getD i 0 = rzF zs i := fun i hi => by
    rw [getD_lt _ _ _ (by rwa [fl_length]), fl_get]
  have hbt : ∀ a b, a < zs.length → bt (fl zs.length (rzF zs)) a b = (rzF zs a).testBit b := fun a b ha => by unfold bt; rw [hg a ha]
  have hout : ∀ a, ¬ a < zs.length → (fl zs.length (rzF zs)).getD a 0 = 0 := fun a ha => by
    rw [List.getD, List.getElem?_eq_none (by rw [fl_length]; omega)]
    rfl
  refine ⟨⟨by rwa [fl_length], by rwa [fl_length], fun i => ?_, fun a => ?_, fun a b ha hb hab => ?_⟩, ?_⟩
  · rw [fl_length]
    by_cases hi : i < zs.length
    · rw [hg i hi]
      exact Nat.lt_pow_two_of_testBit _ fun y hy => hv.lt i hi y hy
    · rw [hout i hi]
      exact Nat.two_pow_pos _
  · by_cases ha : a < zs.length
    · rw [hbt a a ha]
      exact hv.self a ha
    · unfold bt
      rw [hout a ha]
      simp
  · rw [fl_length] at ha hb
    rw [hbt a b ha, hbt b a hb]
    exact hv.pair a b ha hb hab (.inl (by simp))
  · apply List.ext_getElem
    · rw [casts_length, scL_length, fl_length]
    · intro i h1 h2
      rw [casts_length] at h1
      have e : (casts (scL (fl zs.length (rzF zs))))[i]'(by rwa [casts_length]) = ((scL (fl zs.length (rzF zs)))[i] : Int) := by simp [casts]
      rw [e, scL_get]
      unfold sc
      rw [hg i h2]
      have := hv.done i h2 (by simp)
      exact (show (pc 8 (rzF zs i) : Int) = _ from this).trans (getD_lt _ _ _ h2)
end Go.Proofs.Ytaocjjocncoahaa
