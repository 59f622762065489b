/- The way down, plain. -/
import Derived.Test.YtaocjjocncoahaaDoorDistP
import Derived.Test.YtaocjjocncoahaaDoorTwo
import Derived.Test.YtaocjjocncoahaaDoorTables
namespace Go.Proofs.YtaocjjocncoahaaDoor
open Go.RowKit

def slN : Value → Nat
  | .slice _ n _ => n
  | _ => 0
theorem wayL_step {S : Known} {V : List Nat} {k j : Nat} (hj : j < (triRows V).length) (hn : ∀ i (h : i < (triRows V).length), i < j → S.lookup (turnL V (triRows V)[i]) ≠ some k) (hy : S.lookup (turnL V (triRows V)[j]) = some k) :
    wayL S V (k + 1) = (triRows V)[j] :: wayL S (turnL V (triRows V)[j]) k := by
  have e : (triRows V).find? (fun ts => S.lookup (turnL V ts) == some k) = some (triRows V)[j] := by
    rw [List.find?_eq_some_iff_getElem]
    exact ⟨by simp [hy], j, hj, rfl, fun i hi => by simpa using hn i (by omega) hi⟩
  rw [wayL, e]
theorem dI_some {S : Known} {V : List Nat} {k : Nat} (h : S.lookup V = some k) : dI S V = (k : Int) := by unfold dI; rw [h]
theorem dI_eq (S : Known) (V : List Nat) (k : Nat) : dI S V = (k : Int) ↔ S.lookup V = some k := by
  unfold dI
  cases S.lookup V with
  | none => simp
  | some m => simp; omega
/-- A distance is small. -/
theorem FS_small {n : Nat} {u V : List Nat} {k : Nat} (hT : IsT u) (hl : u.length = n) (h5 : n ≤ 5) (h : (FS u).lookup V = some k) : k ≤ 1024 := by
  obtain ⟨h1, _⟩ := FS_ok hT hl h5
  obtain ⟨i, hi⟩ := lookup_idx h
  have h2 := h1.small i V k hi
  have h3 := (List.getElem?_eq_some_iff.1 hi).1
  have h4 := h1.len (by omega)
  have h5 : 2 ^ off n n ≤ 1024 := by
    have : ∀ n, n < 6 → 2 ^ off n n ≤ 1024 := by decide +kernel
    exact this n (by omega)
  omega
theorem FS_val {n : Nat} {u V : List Nat} {k : Nat} (hT : IsT u) (hl : u.length = n) (h5 : n ≤ 5) (h : (FS u).lookup V = some k) : IsT V ∧ V.length = n := by
  obtain ⟨h1, _⟩ := FS_ok hT hl h5
  obtain ⟨i, hi⟩ := lookup_idx h
  exact h1.val (V, k) (List.mem_of_getElem? hi)
theorem FS_zero {n : Nat} {u : List Nat} (hT : IsT u) (hl : u.length = n) (h5 : n ≤ 5) : (FS u).lookup u = some 0 := by
  obtain ⟨h1, _⟩ := FS_ok hT hl h5
  exact lookup_at h1.nd h1.zero
/-- The way is as long as the distance says; its rows are triangles. -/
theorem wayL_ok {n : Nat} {u : List Nat} (hT : IsT u) (hl : u.length = n) (h5 : n ≤ 5) : ∀ (k : Nat) (V : List Nat), (FS u).lookup V = some k → (wayL (FS u) V k).length = k ∧ ∀ r ∈ wayL (FS u) V k, r.length ≤ 3 := by
  intro k
  induction k with
  | zero => intro V _; exact ⟨rfl, fun r hr => by cases hr⟩
  | succ k ih =>
    intro V hV
    obtain ⟨ts, h1, h2⟩ := FS_down hT hl h5 hV
    rw [wayL]
    cases hf : (triRows V).find? fun ts => (FS u).lookup (turnL V ts) == some k with
    | none =>
      rw [List.find?_eq_none] at hf
      have := hf ts h1
      simp [h2] at this
    | some ts' =>
      have hm := List.mem_of_find?_eq_some hf
      have hp := List.find?_some hf
      obtain ⟨i1, i2⟩ := ih (turnL V ts') (by simpa using hp)
      refine ⟨by simp [i1], fun r hr => ?_⟩
      rcases List.mem_cons.1 hr with rfl | hr
      · exact triRows_len3 V r hm
      · exact i2 r hr
def rTriangleWay (s : Int) (zs : List Int) (t : Int) (ys : List Int) : List (List Int) := if rTwo s zs t ys then wayL (FS (toW ys)) (toW zs) (dI (FS (toW ys)) (toW zs)).toNat else []
def bTriangleWay (s : Int) (zs : List Int) (t : Int) (ys : List Int) : Bool := rTwo s zs t ys
/-- Two tours with the same scores: the one is known from the other. -/
theorem way_facts {W V : List Nat} (hW : IsT W) (hV : IsT V) (hl : V.length = W.length) (h5 : W.length ≤ 5) (hs : scL W = scL V) : ∃ k, (FS V).lookup W = some k ∧ dI (FS V) W = (k : Int) ∧ k ≤ 1024 ∧ (wayL (FS V) W k).length = k ∧ ∀ r ∈ wayL (FS V) W k, r.length ≤ 3 := by
  obtain ⟨k, hk⟩ := FS_all hV hl h5 hW rfl hs
  obtain ⟨h1, h2⟩ := wayL_ok hV hl h5 k W hk
  exact ⟨k, hk, dI_some hk, FS_small hV hl h5 hk, h1, h2⟩
theorem rTriangleWay_is {W V : List Nat} (hr : rTwo (W.length : Int) (casts W) (W.length : Int) (casts V) = true) {k : Nat} (hk : (FS V).lookup W = some k) : rTriangleWay (W.length : Int) (casts W) (W.length : Int) (casts V) = wayL (FS V) W k := by
  unfold rTriangleWay
  rw [hr, if_pos rfl, toW_casts, toW_casts, dI_some hk]
  rfl
end Go.Proofs.YtaocjjocncoahaaDoor
