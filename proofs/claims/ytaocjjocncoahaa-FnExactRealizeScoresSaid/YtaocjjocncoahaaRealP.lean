/- RealizeScores, plain: the rounds. -/
import Derived.Test.YtaocjjocncoahaaLandau
import Derived.Test.YtaocjjocncoahaaLanN
import Derived.Test.YtaocjjocncoahaaTourOf
namespace Go.Proofs.Ytaocjjocncoahaa
open Go.RowKit

/-! ### Rows as functions -/
def fl (n : Nat) (f : Nat → Nat) : List Nat := (List.range n).map f
def fz (n : Nat) (g : Nat → Int) : List Int := (List.range n).map g
theorem fl_length (n : Nat) (f : Nat → Nat) : (fl n f).length = n := by simp [fl]
theorem fz_length (n : Nat) (f : Nat → Int) : (fz n f).length = n := by simp [fz]
theorem fl_get (n : Nat) (f : Nat → Nat) (a : Nat) (h : a < (fl n f).length) : (fl n f)[a] = f a := by simp [fl]
theorem fz_get (n : Nat) (f : Nat → Int) (a : Nat) (h : a < (fz n f).length) : (fz n f)[a] = f a := by simp [fz]
theorem fl_set (n : Nat) (f : Nat → Nat) (a v : Nat) : (fl n f).set a v = fl n (fun x => if x = a then v else f x) := by
  apply List.ext_getElem
  · simp [fl]
  · intro i h1 h2
    rw [List.getElem_set]
    by_cases e : a = i
    · subst e; simp [fl]
    · have : ¬ i = a := fun h => e h.symm
      simp [fl, e, this]
theorem fz_set (n : Nat) (f : Nat → Int) (a : Nat) (v : Int) : (fz n f).set a v = fz n (fun x => if x = a then v else f x) := by
  apply List.ext_getElem
  · simp [fz]
  · intro i h1 h2
    rw [List.getElem_set]
    by_cases e : a = i
    · subst e; simp [fz]
    · have : ¬ i = a := fun h => e h.symm
      simp [fz, e, this]
theorem fl_congr (n : Nat) (f g : Nat → Nat) (h : ∀ x, x < n → f x = g x) : fl n f = fl n g := List.map_congr_left fun x hx => h x (List.mem_range.1 hx)
theorem fz_congr (n : Nat) (f g : Nat → Int) (h : ∀ x, x < n → f x = g x) : fz n f = fz n g := List.map_congr_left fun x hx => h x (List.mem_range.1 hx)
theorem fz_of (zs : List Int) : fz zs.length (fun x => zs.getD x 0) = zs := by
  apply List.ext_getElem
  · simp [fz]
  · intro i h1 h2
    rw [fz_get, getD_lt _ _ _ h2]

/-! ### The order of the players that are left -/
/-- First by the number, then by the name. -/
def ky (s : Nat → Int) (x : Nat) : Int := 16 * s x + (x : Int)
def srt (s : Nat → Int) (l : List Nat) : List Nat := (sortL (l.map (ky s))).map fun z => (z % 16).toNat
theorem ky_back (s : Nat → Int) (x : Nat) (h : x < 16) : (ky s x % 16).toNat = x := by unfold ky; omega
theorem srt_is (s : Nat → Int) (l L : List Nat) (hp : L.Perm l) (h16 : ∀ x ∈ l, x < 16) (ha : ∀ p q, p < q → q < L.length → ky s (L.getD p 0) ≤ ky s (L.getD q 0)) : L = srt s l := by
  have h1 : L.map (ky s) = sortL (l.map (ky s)) := sorted_is (by
    rw [Asc, List.pairwise_iff_getElem]
    intro i j hi hj hij
    rw [List.length_map] at hi hj
    have := ha i j hij hj
    rw [getD_lt _ _ _ hi, getD_lt _ _ _ hj] at this
    simpa using this) (hp.map _)
  unfold srt
  rw [← h1, List.map_map]
  symm
  have : ∀ x ∈ L, ((fun z : Int => (z % 16).toNat) ∘ ky s) x = id x := fun x hx => ky_back s x (h16 x (hp.mem_iff.1 hx))
  rw [List.map_congr_left this, List.map_id]
theorem srt_perm (s : Nat → Int) (l : List Nat) (h16 : ∀ x ∈ l, x < 16) : (srt s l).Perm l := by
  have h1 := (sortL_perm (l.map (ky s))).map fun z : Int => (z % 16).toNat
  rw [List.map_map] at h1
  have : ∀ x ∈ l, ((fun z : Int => (z % 16).toNat) ∘ ky s) x = id x := fun x hx => ky_back s x (h16 x hx)
  rw [List.map_congr_left this, List.map_id] at h1
  exact h1
theorem srt_keys (s : Nat → Int) (l : List Nat) (h16 : ∀ x ∈ l, x < 16) : (srt s l).map (ky s) = sortL (l.map (ky s)) := by
  unfold srt
  rw [List.map_map]
  have : ∀ z ∈ sortL (l.map (ky s)), (ky s ∘ fun z : Int => (z % 16).toNat) z = id z := fun z hz => by
    obtain ⟨x, hx, rfl⟩ := List.mem_map.1 ((sortL_perm _).mem_iff.1 hz)
    show ky s ((ky s x % 16).toNat) = ky s x
    rw [ky_back s x (h16 x hx)]
  rw [List.map_congr_left this, List.map_id]
theorem srt_asc (s : Nat → Int) (l : List Nat) (h16 : ∀ x ∈ l, x < 16) : (srt s l).Pairwise fun x y => ky s x ≤ ky s y := by
  have h := sortL_asc (l.map (ky s))
  rw [← srt_keys s l h16, Asc, List.pairwise_map] at h
  exact h
theorem ky_le (s : Nat → Int) (x y : Nat) (hx : x < 16) (hy : y < 16) (h : ky s x ≤ ky s y) : s x ≤ s y := by unfold ky at h; omega
theorem srt_vals (s : Nat → Int) (l : List Nat) (h16 : ∀ x ∈ l, x < 16) : (srt s l).map s = sortL (l.map s) := sorted_is (by
  have hp := srt_perm s l h16
  rw [Asc, List.pairwise_map]
  refine List.Pairwise.imp_of_mem ?_ (srt_asc s l h16)
  intro a b ha hb h
  exact ky_le s a b (h16 a (hp.mem_iff.1 ha)) (h16 b (hp.mem_iff.1 hb)) h) ((srt_perm s l h16).map s)

/-! ### One round -/
def bsN (l : List Nat) : Nat := l.foldl (fun a o => a ||| 2 ^ o) 0
theorem bsN_snoc (l : List Nat) (o : Nat) : bsN (l ++ [o]) = bsN l ||| 2 ^ o := by unfold bsN; rw [List.foldl_append]; rfl
theorem bsN_go (l : List Nat) : ∀ (a j : Nat), (l.foldl (fun a o => a ||| 2 ^ o) a).testBit j = (a.testBit j || decide (j ∈ l)) := by
  induction l with
  | nil => intro a j; simp
  | cons x l ih =>
    intro a j
    rw [List.foldl_cons, ih, Nat.testBit_or, Nat.testBit_two_pow]
    by_cases e : x = j
    · subst e; simp
    · have : ¬ j = x := fun h => e h.symm
      simp [e, this]
theorem bsN_bit (l : List Nat) (j : Nat) : (bsN l).testBit j = decide (j ∈ l) := by unfold bsN; rw [bsN_go]; simp
/-- The rows, and the numbers, when i of the others have been dealt with: the first K are beaten by p. -/
def rT (f : Nat → Nat) (p : Nat) (os : List Nat) (K i : Nat) (x : Nat) : Nat :=
  if x = p then f p ||| bsN (os.take (min i K)) else if x ∈ (os.take i).drop K then f x ||| 2 ^ p else f x
def rS (s : Nat → Int) (os : List Nat) (K i : Nat) (x : Nat) : Int := if x ∈ (os.take i).drop K then s x - 1 else s x
theorem rT_zero (f : Nat → Nat) (p : Nat) (os : List Nat) (K x : Nat) : rT f p os K 0 x = f x := by
  unfold rT
  split
  · rename_i e; subst e; simp [bsN]
  · simp
theorem rS_zero (s : Nat → Int) (os : List Nat) (K x : Nat) : rS s os K 0 x = s x := by simp [rS]
theorem take_lo (os : List Nat) (K i : Nat) (h : i ≤ K) : (os.take i).drop K = [] := List.drop_eq_nil_of_le (by rw [List.length_take]; omega)
theorem take_hi (os : List Nat) (K i : Nat) (h : K ≤ i) (hi : i < os.length) : (os.take (i + 1)).drop K = (os.take i).drop K ++ [os[i]] := by
  rw [List.take_succ_eq_append_getElem hi, List.drop_append_of_le_length (by rw [List.length_take]; omega)]
theorem os_not {os : List Nat} (hn : os.Nodup) {i : Nat} (hi : i < os.length) (K : Nat) : os[i] ∉ (os.take i).drop K := fun h => by
  have h1 := List.mem_of_mem_drop h
  obtain ⟨j, hj, e⟩ := List.mem_iff_getElem.1 h1
  rw [List.length_take] at hj
  rw [List.getElem_take] at e
  exact absurd e (List.pairwise_iff_getElem.1 hn j i (by omega) hi (by omega))
/-- One of the first K: p beats him. -/
theorem rT_win (n : Nat) (f : Nat → Nat) (p : Nat) (os : List Nat) (K i : Nat) (hi : i < os.length) (hK : i < K) : (fl n (rT f p os K i)).set p (rT f p os K i p ||| 2 ^ os[i]) = fl n (rT f p os K (i + 1)) := by
  rw [fl_set]
  refine fl_congr n _ _ fun x _ => ?_
  by_cases e : x = p
  · subst e
    rw [if_pos rfl]
    unfold rT
    rw [if_pos rfl, if_pos rfl, Nat.min_eq_left (by omega), Nat.min_eq_left (by omega), List.take_succ_eq_append_getElem hi, bsN_snoc, Nat.or_assoc]
  · rw [if_neg e]
    unfold rT
    rw [if_neg e, if_neg e, take_lo os K i (by omega), take_lo os K (i + 1) (by omega)]
theorem rS_win (n : Nat) (s : Nat → Int) (os : List Nat) (K i : Nat) (hK : i < K) : fz n (rS s os K (i + 1)) = fz n (rS s os K i) := fz_congr n _ _ fun x _ => by
  unfold rS
  rw [take_lo os K i (by omega), take_lo os K (i + 1) (by omega)]
/-- One behind them: he beats p, and his number falls. -/
theorem rT_lose (n : Nat) (f : Nat → Nat) (p : Nat) (os : List Nat) (K i : Nat) (hn : os.Nodup) (hp : p ∉ os) (hi : i < os.length) (hK : K ≤ i) : (fl n (rT f p os K i)).set os[i] (rT f p os K i os[i] ||| 2 ^ p) = fl n (rT f p os K (i + 1)) := by
  have hne : os[i] ≠ p := fun e => hp (e ▸ List.getElem_mem hi)
  rw [fl_set]
  refine fl_congr n _ _ fun x _ => ?_
  by_cases e : x = os[i]
  · subst e
    rw [if_pos rfl]
    unfold rT
    rw [if_neg hne, if_neg hne, if_neg (os_not hn hi K), take_hi os K i hK hi, if_pos (by simp)]
  · rw [if_neg e]
    unfold rT
    by_cases e2 : x = p
    · rw [if_pos e2, if_pos e2, Nat.min_eq_right hK, Nat.min_eq_right (by omega)]
    · rw [if_neg e2, if_neg e2, take_hi os K i hK hi]
      simp [e]
theorem rS_lose (n : Nat) (s : Nat → Int) (os : List Nat) (K i : Nat) (hn : os.Nodup) (hi : i < os.length) (hK : K ≤ i) : (fz n (rS s os K i)).set os[i] (rS s os K i os[i] - 1) = fz n (rS s os K (i + 1)) := by
  rw [fz_set]
  refine fz_congr n _ _ fun x _ => ?_
  by_cases e : x = os[i]
  · subst e
    rw [if_pos rfl]
    unfold rS
    rw [if_neg (os_not hn hi K), take_hi os K i hK hi, if_pos (by simp)]
  · rw [if_neg e]
    unfold rS
    rw [take_hi os K i hK hi]
    simp [e]
/-- The rows and the numbers behind a round. -/
def nT (f : Nat → Nat) (p : Nat) (os : List Nat) (K : Nat) : Nat → Nat := rT f p os K os.length
def nS (s : Nat → Int) (os : List Nat) (K : Nat) : Nat → Int := rS s os K os.length
/-- The rounds: f the rows, s the numbers, l those that are left. -/
def rz : Nat → (Nat → Nat) → (Nat → Int) → List Nat → Nat → Nat
  | 0, f, _, _ => f
  | m + 1, f, s, l => match srt s l with
    | [] => f
    | p :: os => rz m (nT f p os (s p).toNat) (nS s os (s p).toNat) os

end Go.Proofs.Ytaocjjocncoahaa
