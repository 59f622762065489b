/- FnLandau, plain: what the law asks of a tour's scores. -/
import Derived.Test.YtaocjjocncoahaaLanT
import Derived.Test.YtaocjjocncoahaaMg6
import Derived.Test.YtaocjjocncoahaaCountSeq
namespace Go.Proofs.Ytaocjjocncoahaa
open Go.RowKit

theorem perm_sumI {f : Int → Int} {l m : List Int} (h : l.Perm m) : (l.map f).sum = (m.map f).sum := by
  induction h with
  | nil => rfl
  | cons x _ ih => simp [ih]
  | swap x y l => simp; omega
  | trans _ _ a b => exact a.trans b
theorem sumF_list (f : Nat → Int) (k : Nat) : sumF f k = ((List.range k).map f).sum := by
  induction k with
  | zero => rfl
  | succ k ih => rw [sumF, ih, List.range_succ, List.map_append, List.sum_append]; simp
/-- The slack of all: the sum less that of 0, 1, .. -/
theorem slk_all (zs : List Int) (k : Nat) : slk zs k = sumF (fun i => zs.getD i 0) k - sumF (fun i => (i : Int)) k := by
  induction k with
  | zero => rfl
  | succ k ih => rw [slk, sumF, sumF, ih]; omega
theorem sum_getD (zs : List Int) : sumF (fun i => zs.getD i 0) zs.length = zs.sum := by
  rw [sumF_list]
  congr 1
  apply List.ext_getElem
  · simp
  · intro i h1 h2
    rw [List.getElem_map, List.getElem_range, getD_lt _ _ _ h2]
theorem slk_perm {zs ys : List Int} (h : zs.Perm ys) : slk zs zs.length = slk ys ys.length := by
  rw [slk_all, slk_all, sum_getD, sum_getD, h.length_eq]
  have := perm_sumI (f := fun x => x) h
  simp only [List.map_id'] at this
  rw [this]
theorem slk_bump (zs : List Int) (i : Nat) (hi : i < zs.length) (k : Nat) : slk (zs.set i (zs.getD i 0 + 1)) k = slk zs k + if i < k then 1 else 0 := by
  induction k with
  | zero => rfl
  | succ k ih =>
    rw [slk, slk, ih]
    by_cases e : i = k
    · subst e
      rw [List.getD, List.getElem?_set_self hi]
      simp
      omega
    · rw [List.getD, List.getElem?_set_ne e, ← List.getD]
      by_cases h : i < k
      · rw [if_pos h, if_pos (by omega)]; omega
      · rw [if_neg h, if_neg (by omega)]; omega
theorem lanS_slk {zs : List Int} (h : lanS zs = true) : slk zs zs.length = 0 := by
  unfold lanS at h
  simp only [Bool.and_eq_true, beq_iff_eq] at h
  exact h.2
theorem lanS_bump {q : List Int} (h : lanS q = true) {i : Nat} (hi : i < q.length) : lanS (q.set i (q.getD i 0 + 1)) = false ∧ bRealizeScores (q.set i (q.getD i 0 + 1)) = false := by
  have h0 := lanS_slk h
  have h1 : slk (q.set i (q.getD i 0 + 1)) (q.set i (q.getD i 0 + 1)).length = 1 := by
    rw [List.length_set, slk_bump q i hi, h0, if_pos hi]; rfl
  constructor
  · cases hb : lanS (q.set i (q.getD i 0 + 1)) with
    | false => rfl
    | true => have := lanS_slk hb; omega
  · unfold bRealizeScores
    cases hb : lanS (sortL (q.set i (q.getD i 0 + 1))) with
    | false => rfl
    | true => have := lanS_slk hb; rw [slk_perm (sortL_perm _)] at this; omega

/-! ### The triangles, by computation over all sequences of at most 7 -/
def tS (zs : List Int) : Int := (zs.map fun z => (choose2 z.toNat : Int)).sum
def lanMost (q : List Int) : Bool := !lanS q || (decide ((choose3 q.length : Int) - tS q ≤ mostT q.length q.length) && (!decide (q.getD (q.length - 1) 0 - q.getD 0 0 ≤ 1) || ((choose3 q.length : Int) - tS q == mostT q.length q.length)))
theorem most_all : ((List.range 8).all fun m => (ascs m 0).all lanMost) = true := by decide +kernel
theorem tris_is (W : List Nat) (hT : IsT W) : tris W W.length = tS (lsq W) := by
  have h1 : tS (lsq W) = tS (casts (scL W)) := perm_sumI (sortL_perm _)
  rw [h1, scL_map]
  unfold tS tris
  rw [sumF_list, List.map_map]
  rfl
theorem most_facts {W : List Nat} (hT : IsT W) (h7 : W.length ≤ 7) : (choose3 W.length : Int) - tris W W.length ≤ mostT W.length W.length ∧ ((lsq W).getD (W.length - 1) 0 - (lsq W).getD 0 0 ≤ 1 → (choose3 W.length : Int) - tris W W.length = mostT W.length W.length) := by
  have hl := lsq_length W
  have hlan := lsq_lan hT
  have hm : lsq W ∈ ascs (lsq W).length 0 := ascs_mem (lsq W) 0 (sortL_asc _) fun z hz => by
    have := lan_bnd hlan z hz
    exact ⟨by have := this.1; omega, this.2⟩
  have h1 := List.all_eq_true.1 most_all (lsq W).length (List.mem_range.2 (by omega))
  have h2 := List.all_eq_true.1 h1 _ hm
  unfold lanMost at h2
  rw [hlan, hl, ← tris_is W hT] at h2
  simp only [Bool.not_true, Bool.false_or, Bool.and_eq_true, decide_eq_true_eq, Bool.or_eq_true, Bool.not_eq_true', decide_eq_false_iff_not, beq_iff_eq] at h2
  exact ⟨h2.1, fun h => h2.2.resolve_left fun h3 => h3 h⟩
theorem reg_is {W : List Nat} (hT : IsT W) : regB W = decide ((lsq W).getD (W.length - 1) 0 - (lsq W).getD 0 0 ≤ 1) := by
  have h1 := hT.h1
  have hl : (casts (scL W)).length = W.length := by rw [casts_length, scL_length]
  have a := max_last (casts (scL W)) (by omega)
  have b := min_first (casts (scL W)) (by omega)
  rw [hl] at a b
  unfold regB
  rw [a, b]
  rfl
theorem seq_five : rCountSequences 5 = 9 := by decide +kernel
theorem slack_is {W : List Nat} (hT : IsT W) : rSlackOf (lsq W) = slacks (lsq W) W.length := by
  have hl := lsq_length W
  have h1 := hT.h1
  have h8 := hT.h8
  have hall : allIn 0 1000 (lsq W) = true := by
    unfold allIn
    rw [List.all_eq_true]
    intro z hz
    have := lan_bnd (lsq_lan hT) z hz
    simp
    omega
  unfold rSlackOf
  rw [hl, if_pos ⟨h1, h8, hall⟩]
/-- The realized tour. -/
def realW (W : List Nat) : List Nat := fl W.length (rzF (casts (scL W)))
structure LanFacts (W : List Nat) : Prop where
  seq : rSequenceOf (W.length : Int) (casts W) = lsq W
  scr : rScoresOf (W.length : Int) (casts W) = casts (scL W)
  reB : bRealizeScores (casts (scL W)) = true
  reT : tRealizeScores (casts (scL W)) = (W.length : Int)
  reR : rRealizeScores (casts (scL W)) = casts (realW W)
  reV : IsT (realW W)
  reL : (realW W).length = W.length
  reS : rScoresOf (W.length : Int) (casts (realW W)) = casts (scL W)
  lan : rIsLandau (lsq W) = true
  sla : rSlackOf (lsq W) = slacks (lsq W) W.length
  last : slk (lsq W) W.length = 0
  nn : ∀ k, k ≤ W.length → 0 ≤ slk (lsq W) k
  ctW : rCountTriangles (W.length : Int) (casts W) = (choose3 W.length : Int) - tris W W.length
  ctR : rCountTriangles (W.length : Int) (casts (realW W)) = (choose3 W.length : Int) - tris W W.length
  most : (choose3 W.length : Int) - tris W W.length ≤ mostTri W.length
  zeros : cntB W.length (fun i => slk (lsq W) (i + 1) == 0) = (rStrongParts (W.length : Int) (casts W)).length
  bump : ∀ i, i < W.length → rIsLandau ((lsq W).set i ((lsq W).getD i 0 + 1)) = false ∧ bRealizeScores ((lsq W).set i ((lsq W).getD i 0 + 1)) = false
  sq : rSumOfSquares (W.length : Int) (casts W) = sqs W W.length
  reg : rIsRegular (W.length : Int) (casts W) = decide ((lsq W).getD (W.length - 1) 0 - (lsq W).getD 0 0 ≤ 1)
  regT : rIsRegular (W.length : Int) (casts W) = true → (choose3 W.length : Int) - tris W W.length = mostTri W.length
theorem lan_facts {W : List Nat} (hT : IsT W) (h7 : W.length ≤ 7) : LanFacts W := by
  have ho := tour_ok hT
  have h1 := hT.h1
  have hlb : bRealizeScores (casts (scL W)) = true := lsq_lan hT
  obtain ⟨rT, rS⟩ := real_tour (casts (scL W)) hlb
  have hcl : (casts (scL W)).length = W.length := by rw [casts_length, scL_length]
  rw [hcl] at rT rS
  have hrl : (realW W).length = W.length := fl_length _ _
  have hoR := tour_ok (show IsT (realW W) from rT)
  rw [hrl] at hoR
  obtain ⟨m1, m2⟩ := most_facts hT h7
  have hmt : mostTri (W.length : Int) = mostT W.length W.length := by unfold mostTri; rw [if_pos (by omega), Int.toNat_natCast]
  have hreg : rIsRegular (W.length : Int) (casts W) = decide ((lsq W).getD (W.length - 1) 0 - (lsq W).getD 0 0 ≤ 1) := by unfold rIsRegular; rw [ho, if_pos rfl, toW_casts, reg_is hT]
  have hsc : ∀ a, a < W.length → sc (realW W) a = sc W a := fun a ha => by
    have h := congrArg (fun l : List Int => l.getD a 0) rS
    simp only [casts_getD] at h
    have h2 : (scL (realW W)).getD a 0 = (scL W).getD a 0 := Int.ofNat.inj h
    rw [getD_lt _ _ _ (by rw [scL_length, hrl]; exact ha), getD_lt _ _ _ (by rw [scL_length]; exact ha), scL_get, scL_get] at h2
    exact h2
  have htr : tris (realW W) W.length = tris W W.length := sumF_congr _ _ _ fun i hi => by rw [hsc i hi]
  refine ⟨?_, ?_, hlb, ?_, ?_, rT, hrl, ?_, lsq_lan hT, slack_is hT, (lsq_zero hT (Nat.le_refl _)).2 fun i j _ h2 h3 => absurd h2 (by omega), fun k hk => lsq_nonneg hT hk, ?_, ?_, by rw [hmt]; exact m1, ?_, fun i hi => lanS_bump (lsq_lan hT) (by rw [lsq_length]; exact hi), ?_, hreg, fun h => by rw [hmt]; exact m2 (by rw [hreg] at h; simpa using h)⟩
  · unfold rSequenceOf; rw [ho, if_pos rfl, toW_casts]; rfl
  · unfold rScoresOf; rw [ho, if_pos rfl, toW_casts]
  · unfold tRealizeScores; rw [hlb, if_pos rfl, hcl]
  · unfold rRealizeScores; rw [hlb, if_pos rfl, hcl]; rfl
  · unfold rScoresOf; rw [hoR, if_pos rfl, toW_casts]; exact rS
  · unfold rCountTriangles; rw [ho, if_pos rfl, toW_casts]
  · unfold rCountTriangles; rw [hoR, if_pos rfl, toW_casts, hrl, htr]
  · unfold rStrongParts; rw [ho, if_pos rfl, toW_casts, casts_length]; exact zeros_is hT
  · unfold rSumOfSquares; rw [ho, if_pos rfl, toW_casts]
end Go.Proofs.Ytaocjjocncoahaa
