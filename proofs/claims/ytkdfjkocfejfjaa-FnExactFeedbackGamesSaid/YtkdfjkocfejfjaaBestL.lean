/- The first best order: plain laws. No program. -/
import Derived.Test.YtkdfjkocfejfjaaTablW
import Derived.Test.YtkdfjkocfejfjaaBack
namespace Go.Proofs.Ytkdfjkocfejfjaa
open Go.RowKit

/-- a may stand first in a best order of s. -/
def okA (W : List Nat) (s a : Nat) : Bool := decide ((ent W (s - 2 ^ a)).1 + cst W a (s - 2 ^ a) = (ent W s).1)
theorem st_hit (W : List Nat) (L : List (Nat × Nat)) (s j : Nat) : (stK W L s j).1 = -1 ∨ ∃ i, i < j ∧ (stK W L s j).1 = (costT W L s ((mem 8 s).getD i 0) : Nat) := by
  induction j with
  | zero => left; rfl
  | succ j ih =>
    rw [stK]
    unfold stepT
    split
    · right; exact ⟨j, Nat.lt_succ_self _, rfl⟩
    · split
      · rename_i h; right; exact ⟨j, Nat.lt_succ_self _, h.symm⟩
      · rcases ih with h | ⟨i, hi, h⟩
        · left; exact h
        · right; exact ⟨i, by omega, h⟩
theorem okA_some (W : List Nat) (s : Nat) (hs : s < 256) (h0 : s ≠ 0) : ∃ a, a ∈ mem 8 s ∧ okA W s a = true := by
  have hpos : 0 < (mem 8 s).length := by
    rw [mem_length]
    have := pc_zero s hs
    omega
  have hbd := st_bd W (tbl W s) s 64 16777216 (fun a ha => by
    obtain ⟨_, q2, _, _⟩ := mem_left s a hs ha
    unfold wayT
    rw [tbl_at W s _ q2]
    obtain ⟨e1, e2⟩ := ent_bd W (s - 2 ^ a) (by omega)
    have h8 := pc_le 8 (s - 2 ^ a)
    have h9 : 8 ^ pc 8 (s - 2 ^ a) ≤ 8 ^ 8 := Nat.pow_le_pow_right (by omega) h8
    exact ⟨by omega, by omega⟩) (mem 8 s).length (Nat.le_refl _)
  obtain ⟨b1, b2, b3, b4⟩ := hbd
  have b5 := b3 hpos
  rcases st_hit W (tbl W s) s (mem 8 s).length with h | ⟨i, hi, h⟩
  · omega
  · refine ⟨(mem 8 s).getD i 0, by rw [getD_lt _ _ _ hi]; exact List.getElem_mem _, ?_⟩
    have hm : (mem 8 s).getD i 0 ∈ mem 8 s := by rw [getD_lt _ _ _ hi]; exact List.getElem_mem _
    obtain ⟨_, q2, _, _⟩ := mem_left s _ hs hm
    unfold okA
    rw [decide_eq_true_eq]
    have he : (ent W s).1 = (stK W (tbl W s) s (mem 8 s).length).1.toNat := by
      show (rowT W (tbl W s) s).1 = _
      unfold rowT
      rw [if_neg h0]
    rw [he, h]
    unfold costT
    rw [tbl_at W s _ q2]
    rfl
def boF (W : List Nat) : Nat → Nat → List Nat
  | 0, _ => []
  | f + 1, s => match (mem 8 s).find? (okA W s) with
    | none => []
    | some a => a :: boF W f (s - 2 ^ a)
theorem mem_zero : mem 8 0 = [] := by decide
theorem boF_zero (W : List Nat) (f : Nat) : boF W f 0 = [] := by
  cases f with
  | zero => rfl
  | succ f => unfold boF; rw [mem_zero]; rfl
theorem find_mem {W : List Nat} {s a : Nat} (h : (mem 8 s).find? (okA W s) = some a) : a ∈ mem 8 s := List.mem_of_find?_eq_some h
theorem boF_fuel (W : List Nat) : ∀ (f f' s : Nat), s < 256 → pc 8 s ≤ f → pc 8 s ≤ f' → boF W f s = boF W f' s
  | 0, f', s, hs, hp, _ => by
    have e : s = 0 := (pc_zero s hs).1 (by omega)
    subst e
    rw [boF_zero, boF_zero]
  | f + 1, 0, s, hs, _, hp => by
    have e : s = 0 := (pc_zero s hs).1 (by omega)
    subst e
    rw [boF_zero, boF_zero]
  | f + 1, f' + 1, s, hs, h1, h2 => by
    unfold boF
    cases e : (mem 8 s).find? (okA W s) with
    | none => rfl
    | some a =>
      obtain ⟨_, q2, _, q4⟩ := mem_left s a hs (find_mem e)
      show a :: boF W f (s - 2 ^ a) = a :: boF W f' (s - 2 ^ a)
      rw [boF_fuel W f f' (s - 2 ^ a) (by omega) (by omega) (by omega)]
/-- The first best order of s. -/
def boL (W : List Nat) (s : Nat) : List Nat := boF W 8 s
theorem boL_step (W : List Nat) (s a : Nat) (hs : s < 256) (h : (mem 8 s).find? (okA W s) = some a) : boL W s = a :: boL W (s - 2 ^ a) := by
  obtain ⟨_, q2, _, q4⟩ := mem_left s a hs (find_mem h)
  have h8 := pc_le 8 s
  have e : boL W s = boF W 9 s := boF_fuel W 8 9 s hs (by omega) (by omega)
  rw [e]
  show (match (mem 8 s).find? (okA W s) with | none => [] | some a => a :: boF W 8 (s - 2 ^ a)) = _
  rw [h]
  rfl
theorem find_at (W : List Nat) (s j : Nat) (hj : j < (mem 8 s).length) (h : okA W s (mem 8 s)[j] = true) (hn : ∀ i (hi : i < (mem 8 s).length), i < j → okA W s (mem 8 s)[i] = false) : (mem 8 s).find? (okA W s) = some (mem 8 s)[j] := by
  rw [List.find?_eq_some_iff_append]
  refine ⟨h, (mem 8 s).take j, (mem 8 s).drop (j + 1), ?_, fun a ha => ?_⟩
  · have h1 := (List.take_append_drop j (mem 8 s)).symm
    rw [List.drop_eq_getElem_cons hj] at h1
    exact h1
  · obtain ⟨i, hi, e⟩ := List.mem_iff_getElem.1 ha
    rw [List.length_take] at hi
    rw [List.getElem_take] at e
    have := hn i (by omega) (by omega)
    rw [e] at this
    simpa using this
theorem boF_facts (W : List Nat) : ∀ (f s : Nat), s < 256 → pc 8 s ≤ f → (∀ x, x ∈ boF W f s ↔ s.testBit x = true) ∧ (boF W f s).Nodup ∧ (boF W f s).length = pc 8 s
  | 0, s, hs, hp => by
    have e : s = 0 := (pc_zero s hs).1 (by omega)
    subst e
    rw [boF_zero]
    exact ⟨fun x => by simp, List.nodup_nil, ((pc_zero 0 (by omega)).2 rfl).symm⟩
  | f + 1, s, hs, hp => by
    by_cases h0 : s = 0
    · subst h0
      rw [boF_zero]
      exact ⟨fun x => by simp, List.nodup_nil, ((pc_zero 0 (by omega)).2 rfl).symm⟩
    · unfold boF
      cases e : (mem 8 s).find? (okA W s) with
      | none =>
        obtain ⟨a, ha, ho⟩ := okA_some W s hs h0
        have := List.find?_eq_none.1 e a ha
        exact absurd ho this
      | some a =>
        have hm := find_mem e
        obtain ⟨q1, q2, q3, q4⟩ := mem_left s a hs hm
        obtain ⟨i1, i2, i3⟩ := boF_facts W f (s - 2 ^ a) (by omega) (by omega)
        have hb := ((mem_mem 8 s a).1 hm).2
        refine ⟨fun x => ?_, ?_, ?_⟩
        · show x ∈ a :: boF W f (s - 2 ^ a) ↔ _
          rw [List.mem_cons, i1, testBit_sub s a x hs q1 hb]
          by_cases ex : x = a
          · subst ex; simp [hb]
          · simp [ex]
        · show (a :: boF W f (s - 2 ^ a)).Nodup
          rw [List.nodup_cons]
          refine ⟨fun hx => ?_, i2⟩
          rw [i1, testBit_sub s a a hs q1 hb] at hx
          simp at hx
        · show (boF W f (s - 2 ^ a)).length + 1 = _
          omega
theorem orderB_of (W : List Nat) (hT : IsT W) : (boL W (2 ^ W.length - 1)).length = W.length ∧ orderB (casts (boL W (2 ^ W.length - 1))) = true := by
  have h8 := pow_le8 W.length hT.h8
  have hp := Nat.two_pow_pos W.length
  obtain ⟨f1, f2, f3⟩ := boF_facts W 8 (2 ^ W.length - 1) (by omega) (pc_le 8 _)
  have hl : (boL W (2 ^ W.length - 1)).length = W.length := by
    have := pc_all W.length hT.h8
    show (boF W 8 (2 ^ W.length - 1)).length = W.length
    omega
  refine ⟨hl, orderB_yes _ fun j hj => ?_⟩
  have hj' : j < (boL W (2 ^ W.length - 1)).length := by rw [casts_length] at hj; exact hj
  rw [permAt_eq _ _ hj, casts_length, hl]
  have hx : (casts (boL W (2 ^ W.length - 1)))[j] = ((boL W (2 ^ W.length - 1))[j] : Nat) := by simp [casts]
  have hlt : (boL W (2 ^ W.length - 1))[j] < W.length := by
    have h1 := (f1 (boL W (2 ^ W.length - 1))[j]).1 (List.getElem_mem hj')
    rw [Nat.testBit_two_pow_sub_one] at h1
    simpa using h1
  have hany : (((casts (boL W (2 ^ W.length - 1))).take j).any fun y => (casts (boL W (2 ^ W.length - 1)))[j] == y) = false := by
    rw [List.any_eq_false]
    intro y hy
    obtain ⟨i, hi, e⟩ := List.mem_iff_getElem.1 hy
    rw [List.length_take, casts_length] at hi
    rw [List.getElem_take] at e
    have hi2 : i < (boL W (2 ^ W.length - 1)).length := by omega
    have e2 : (casts (boL W (2 ^ W.length - 1)))[i]'(by rw [casts_length]; exact hi2) = ((boL W (2 ^ W.length - 1))[i] : Nat) := by simp [casts]
    rw [← e, e2, hx]
    simp only [beq_iff_eq]
    intro h9
    have h10 : (boL W (2 ^ W.length - 1))[j] = (boL W (2 ^ W.length - 1))[i] := by omega
    have := (List.getElem_inj f2).1 h10
    omega
  rw [hany, hx]
  simp only [Bool.not_false, Bool.and_true, Bool.and_eq_true, decide_eq_true_eq]
  omega
end Go.Proofs.Ytkdfjkocfejfjaa
