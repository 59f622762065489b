/- RealizeScores, plain: the reference's round. -/
import Derived.Test.YtaocjjocncoahaaRealQ
namespace Go.Proofs.Ytaocjjocncoahaa
open Go.RowKit

def qT (f : Nat → Nat) (p : Nat) (os : List Nat) (K b x : Nat) : Nat := if x = p then f p ||| bsN (os.take K) else if x ∈ os.drop K ∧ x < b then f x ||| 2 ^ p else f x
def qS (s : Nat → Int) (os : List Nat) (K b x : Nat) : Int := if x ∈ os.drop K ∧ x < b then s x - 1 else s x
def HD (l : List Nat) (x : Nat) : Bool := decide (x ∉ l)
theorem qT_zero (n : Nat) (f : Nat → Nat) (p : Nat) (os : List Nat) (K : Nat) : fl n (rT f p os K K) = fl n (qT f p os K 0) := fl_congr n _ _ fun x _ => by
  unfold rT qT
  rw [take_lo os K K (Nat.le_refl _), Nat.min_self]
  simp
theorem qS_zero (n : Nat) (s : Nat → Int) (os : List Nat) (K : Nat) : fz n s = fz n (qS s os K 0) := fz_congr n _ _ fun x _ => by
  unfold qS
  simp
theorem qT_step (n : Nat) (f : Nat → Nat) (p : Nat) (os : List Nat) (K b : Nat) (hb : b ∈ os.drop K) (hp : p ∉ os) : (fl n (qT f p os K b)).set b (qT f p os K b b ||| 2 ^ p) = fl n (qT f p os K (b + 1)) := by
  have hne : b ≠ p := fun e => hp (e ▸ List.mem_of_mem_drop hb)
  rw [fl_set]
  refine fl_congr n _ _ fun x _ => ?_
  by_cases e : x = b
  · subst e
    unfold qT
    simp [hne, hb]
  · rw [if_neg e]
    unfold qT
    have : (x < b + 1) = (x < b) := by rw [eq_iff_iff]; omega
    simp only [this]
theorem qS_step (n : Nat) (s : Nat → Int) (os : List Nat) (K b : Nat) (hb : b ∈ os.drop K) : (fz n (qS s os K b)).set b (qS s os K b b - 1) = fz n (qS s os K (b + 1)) := by
  rw [fz_set]
  refine fz_congr n _ _ fun x _ => ?_
  by_cases e : x = b
  · subst e
    unfold qS
    simp [hb]
  · rw [if_neg e]
    unfold qS
    have : (x < b + 1) = (x < b) := by rw [eq_iff_iff]; omega
    simp only [this]
theorem qT_skip (n : Nat) (f : Nat → Nat) (p : Nat) (os : List Nat) (K b : Nat) (hb : b ∉ os.drop K) : fl n (qT f p os K (b + 1)) = fl n (qT f p os K b) := fl_congr n _ _ fun x _ => by
  unfold qT
  by_cases e : x = b
  · subst e; simp [hb]
  · have : (x < b + 1) = (x < b) := by rw [eq_iff_iff]; omega
    simp only [this]
theorem qS_skip (n : Nat) (s : Nat → Int) (os : List Nat) (K b : Nat) (hb : b ∉ os.drop K) : fz n (qS s os K (b + 1)) = fz n (qS s os K b) := fz_congr n _ _ fun x _ => by
  unfold qS
  by_cases e : x = b
  · subst e; simp [hb]
  · have : (x < b + 1) = (x < b) := by rw [eq_iff_iff]; omega
    simp only [this]
theorem qT_end (n : Nat) (f : Nat → Nat) (p : Nat) (os : List Nat) (K : Nat) (hk : K ≤ os.length) : fl n (qT f p os K n) = fl n (nT f p os K) := fl_congr n _ _ fun x hx => by
  unfold qT nT rT
  rw [List.take_length, Nat.min_eq_right hk]
  simp [hx]
theorem qS_end (n : Nat) (s : Nat → Int) (os : List Nat) (K : Nat) : fz n (qS s os K n) = fz n (nS s os K) := fz_congr n _ _ fun x hx => by
  unfold qS nS rS
  rw [List.take_length]
  simp [hx]
theorem HD_done (p : Nat) (os l : List Nat) (hp : (p :: os).Perm l) (hn : p ∉ os) (x : Nat) : (if x = p then true else HD l x) = HD os x := by
  unfold HD
  have : x ∈ l ↔ x = p ∨ x ∈ os := by rw [← hp.mem_iff]; simp
  by_cases e : x = p
  · subst e; simp [hn]
  · simp [this, e]
theorem RR.least1 {n : Nat} {f : Nat → Nat} {s : Nat → Int} {l : List Nat} {p : Nat} {os : List Nat} {K : Nat} (h : RR n f s l p os K) (h8 : n ≤ 8) : leastI s (HD l) n = (p : Int) := by
  refine leastI_head n s (HD l) p h8 h.pn ?_ fun x _ hx => ?_
  · unfold HD; simp [h.perm.mem_iff.1 (show p ∈ p :: os by simp)]
  · have hx : x ∈ l := by unfold HD at hx; simpa using hx
    rcases List.mem_cons.1 (h.perm.mem_iff.2 hx) with rfl | hx
    · exact Int.le_refl _
    · exact h.asc x hx
theorem RR.least2 {n : Nat} {f : Nat → Nat} {s : Nat → Int} {l : List Nat} {p : Nat} {os : List Nat} {K : Nat} (h : RR n f s l p os K) (h8 : n ≤ 8) (j : Nat) (hj : j < os.length) : leastI s (HD (os.drop j)) n = (os[j] : Int) := by
  have hd := List.drop_eq_getElem_cons hj
  refine leastI_head n s _ os[j] h8 (h.lt _ (List.getElem_mem hj)) ?_ fun x _ hx => ?_
  · have hin : os[j] ∈ os.drop j := by rw [hd]; exact List.mem_cons_self
    unfold HD; simp [hin]
  · have hx : x ∈ os.drop j := by unfold HD at hx; simpa using hx
    have hp := List.Pairwise.sublist (List.drop_sublist j os) h.asco
    rw [hd] at hp hx
    rcases List.mem_cons.1 hx with rfl | hx
    · exact Int.le_refl _
    · exact (List.pairwise_cons.1 hp).1 x hx
theorem HD_hide (os : List Nat) (j : Nat) (hj : j < os.length) (hn : os.Nodup) (x : Nat) : (if x = os[j] then true else HD (os.drop j) x) = HD (os.drop (j + 1)) x := by
  have hd := List.drop_eq_getElem_cons hj
  have hp : (os.drop j).Nodup := List.Pairwise.sublist (List.drop_sublist j os) hn
  rw [hd] at hp
  have h1 := (List.nodup_cons.1 hp).1
  unfold HD
  have hm : x ∈ os.drop j ↔ x = os[j] ∨ x ∈ os.drop (j + 1) := by rw [hd]; exact List.mem_cons
  by_cases e : x = os[j]
  · rw [if_pos e, e]; simp [h1]
  · rw [if_neg e, decide_eq_decide, hm]; simp [e]
end Go.Proofs.Ytaocjjocncoahaa
