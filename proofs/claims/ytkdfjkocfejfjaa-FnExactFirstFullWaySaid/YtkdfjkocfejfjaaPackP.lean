/- PackTriangles: plain law. The players that two triangles share, and the table of pairs that are used. -/
import Derived.Test.YtkdfjkocfejfjaaTriang
import Derived.Test.YtkdfjkocfejfjaaBits2
namespace Go.Proofs.Ytkdfjkocfejfjaa
open Go.RowKit

/-- The set of a list's players. -/
def sT (r : List Int) : Nat := r.foldl (fun x a => x ||| 2 ^ a.toNat) 0
def meetB (r q : List Int) : Bool := decide (2 ≤ pc 8 (sT r &&& sT q))
/-- The triangles packed out of the first k ones. -/
def pkL (rs : List (List Int)) : Nat → List (List Int)
  | 0 => []
  | k + 1 => if (pkL rs k).any (meetB (rs.getD k [])) then pkL rs k else pkL rs k ++ [rs.getD k []]
theorem pkL_sub (rs : List (List Int)) : ∀ k, k ≤ rs.length → ∀ r ∈ pkL rs k, r ∈ rs
  | 0, _, r, h => by cases h
  | k + 1, hk, r, h => by
    rw [pkL] at h
    have hg : rs.getD k [] ∈ rs := by
      rw [getD_lt _ _ _ (show k < rs.length by omega)]
      exact List.getElem_mem _
    split at h
    · exact pkL_sub rs k (by omega) r h
    · rcases List.mem_append.1 h with h | h
      · exact pkL_sub rs k (by omega) r h
      · rw [List.mem_singleton] at h
        rw [h]
        exact hg
theorem pkL_le (rs : List (List Int)) : ∀ k, (pkL rs k).length ≤ k
  | 0 => Nat.le_refl _
  | k + 1 => by
    have := pkL_le rs k
    rw [pkL]
    split
    · omega
    · rw [List.length_append, List.length_singleton]; omega
theorem sT_tri (a b c : Nat) : sT (tri3 a b c) = 2 ^ a ||| 2 ^ b ||| 2 ^ c := by
  simp [sT, tri3]
def m3 (m a b c : Nat) : Bool := (m.testBit a && m.testBit b) || (m.testBit b && m.testBit c) || (m.testBit a && m.testBit c)
def bw (u : Bool) (a : Nat) : Nat := if u then 2 ^ a else 0
theorem meet_all : ((List.range 8).all fun a => (List.range 8).all fun b => (List.range 8).all fun c => [false, true].all fun u => [false, true].all fun v => [false, true].all fun x => decide (a = b) || decide (b = c) || decide (a = c) || (decide (2 ≤ pc 8 (bw u a ||| bw v b ||| bw x c)) == ((u && v) || (v && x) || (u && x)))) = true := by decide +kernel
theorem and_pow (m a : Nat) : 2 ^ a &&& m = bw (m.testBit a) a := by
  apply Nat.eq_of_testBit_eq
  intro i
  unfold bw
  rw [Nat.testBit_and, Nat.testBit_two_pow]
  by_cases h : a = i
  · subst h
    cases m.testBit a <;> simp
  · cases m.testBit a <;> simp [h, Nat.testBit_two_pow]
theorem and_three (m a b c : Nat) : (2 ^ a ||| 2 ^ b ||| 2 ^ c) &&& m = bw (m.testBit a) a ||| bw (m.testBit b) b ||| bw (m.testBit c) c := by
  rw [← and_pow, ← and_pow, ← and_pow]
  apply Nat.eq_of_testBit_eq
  intro i
  simp only [Nat.testBit_and, Nat.testBit_or]
  cases (2 ^ a).testBit i <;> cases (2 ^ b).testBit i <;> cases (2 ^ c).testBit i <;> cases m.testBit i <;> rfl
theorem meet_tri (m a b c : Nat) (ha : a < 8) (hb : b < 8) (hc : c < 8) (hab : a ≠ b) (hbc : b ≠ c) (hac : a ≠ c) : decide (2 ≤ pc 8 ((2 ^ a ||| 2 ^ b ||| 2 ^ c) &&& m)) = m3 m a b c := by
  have h := meet_all
  rw [List.all_eq_true] at h
  have h := h a (List.mem_range.2 ha)
  rw [List.all_eq_true] at h
  have h := h b (List.mem_range.2 hb)
  rw [List.all_eq_true] at h
  have h := h c (List.mem_range.2 hc)
  rw [List.all_eq_true] at h
  have h := h (m.testBit a) (by cases m.testBit a <;> simp)
  rw [List.all_eq_true] at h
  have h := h (m.testBit b) (by cases m.testBit b <;> simp)
  rw [List.all_eq_true] at h
  have h := h (m.testBit c) (by cases m.testBit c <;> simp)
  rw [decide_eq_false hab, decide_eq_false hbc, decide_eq_false hac, Bool.false_or, Bool.false_or, Bool.false_or] at h
  rw [and_three]
  exact eq_of_beq h
/-- Do x and y play in one of the triangles? -/
def pairIn (os : List (List Int)) (x y : Nat) : Bool := os.any fun r => (sT r).testBit x && (sT r).testBit y
/-- What the table of used pairs says. -/
def UsOk (n : Nat) (os : List (List Int)) (U : List Nat) : Prop := U.length = n ∧ ∀ x, x < n → U.getD x 0 < 256 ∧ ∀ y, y < 8 → x ≠ y → (U.getD x 0).testBit y = pairIn os x y
theorem sT_lt (a b c : Nat) (ha : a < 8) (hb : b < 8) (hc : c < 8) : sT (tri3 a b c) < 256 := by
  rw [sT_tri]
  have h1 := Nat.pow_lt_pow_right (a := 2) (by omega) ha
  have h2 := Nat.pow_lt_pow_right (a := 2) (by omega) hb
  have h3 := Nat.pow_lt_pow_right (a := 2) (by omega) hc
  exact Nat.or_lt_two_pow (n := 8) (Nat.or_lt_two_pow (n := 8) h1 h2) h3
/-- The reference's test answers as the program's. -/
theorem used_meets (n : Nat) (os : List (List Int)) (U : List Nat) (a b c : Nat) (hU : UsOk n os U) (h8 : n ≤ 8) (ha : a < n) (hb : b < n) (hc : c < n) (hab : a ≠ b) (hbc : b ≠ c) (hac : a ≠ c) (hos : ∀ r ∈ os, sT r < 256) :
    ((U.getD a 0).testBit b || (U.getD b 0).testBit c || (U.getD a 0).testBit c) = os.any (meetB (tri3 a b c)) := by
  rw [(hU.2 a ha).2 b (by omega) hab, (hU.2 b hb).2 c (by omega) hbc, (hU.2 a ha).2 c (by omega) hac]
  unfold pairIn
  induction os with
  | nil => rfl
  | cons r os ih =>
    have h1 : meetB (tri3 a b c) r = m3 (sT r) a b c := by
      unfold meetB
      rw [sT_tri]
      exact meet_tri _ a b c (by omega) (by omega) (by omega) hab hbc hac
    rw [List.any_cons, List.any_cons, List.any_cons, List.any_cons, h1]
    have ih' : ((os.any fun r => (sT r).testBit a && (sT r).testBit b) || (os.any fun r => (sT r).testBit b && (sT r).testBit c) || (os.any fun r => (sT r).testBit a && (sT r).testBit c)) = os.any (meetB (tri3 a b c)) := by
      clear ih h1 hU
      induction os with
      | nil => rfl
      | cons q os ih2 =>
        have h2 : meetB (tri3 a b c) q = m3 (sT q) a b c := by
          unfold meetB
          rw [sT_tri]
          exact meet_tri _ a b c (by omega) (by omega) (by omega) hab hbc hac
        rw [List.any_cons, List.any_cons, List.any_cons, List.any_cons, h2, ← ih2 (fun r' hr' => hos r' (by
          rcases List.mem_cons.1 hr' with h | h
          · rw [h]; exact List.mem_cons_self ..
          · exact List.mem_cons_of_mem _ (List.mem_cons_of_mem _ h)))]
        unfold m3
        generalize (sT q).testBit a = u1
        generalize (sT q).testBit b = u2
        generalize (sT q).testBit c = u3
        generalize (os.any fun r => (sT r).testBit a && (sT r).testBit b) = v1
        generalize (os.any fun r => (sT r).testBit b && (sT r).testBit c) = v2
        generalize (os.any fun r => (sT r).testBit a && (sT r).testBit c) = v3
        revert u1 u2 u3 v1 v2 v3
        decide
    rw [← ih']
    unfold m3
    generalize (sT r).testBit a = u1
    generalize (sT r).testBit b = u2
    generalize (sT r).testBit c = u3
    generalize (os.any fun r => (sT r).testBit a && (sT r).testBit b) = v1
    generalize (os.any fun r => (sT r).testBit b && (sT r).testBit c) = v2
    generalize (os.any fun r => (sT r).testBit a && (sT r).testBit c) = v3
    revert u1 u2 u3 v1 v2 v3
    decide
/-- The used pairs' table behind a triangle that is packed. -/
def add1 (U : List Nat) (a b c : Nat) : List Nat := U.set a (U.getD a 0 ||| 2 ^ b ||| 2 ^ c)
def add3 (U : List Nat) (a b c : Nat) : List Nat := add1 (add1 (add1 U a b c) b a c) c a b
theorem add1_length (U : List Nat) (a b c : Nat) : (add1 U a b c).length = U.length := by simp [add1]
theorem add1_getD (U : List Nat) (a b c i : Nat) (ha : a < U.length) : (add1 U a b c).getD i 0 = if i = a then U.getD a 0 ||| 2 ^ b ||| 2 ^ c else U.getD i 0 := by
  unfold add1
  rw [List.getD_eq_getElem?_getD, List.getElem?_set]
  by_cases h : a = i
  · subst h
    rw [if_pos rfl, if_pos ha, if_pos rfl]
    rfl
  · rw [if_neg h, if_neg (fun e => h e.symm), List.getD_eq_getElem?_getD]
theorem add3_getD (U : List Nat) (a b c x : Nat) (ha : a < U.length) (hb : b < U.length) (hc : c < U.length) (hab : a ≠ b) (hbc : b ≠ c) (hac : a ≠ c) :
    (add3 U a b c).getD x 0 = if x = a then U.getD a 0 ||| 2 ^ b ||| 2 ^ c else if x = b then U.getD b 0 ||| 2 ^ a ||| 2 ^ c else if x = c then U.getD c 0 ||| 2 ^ a ||| 2 ^ b else U.getD x 0 := by
  have q1 : ∀ i, (add1 U a b c).getD i 0 = if i = a then U.getD a 0 ||| 2 ^ b ||| 2 ^ c else U.getD i 0 := fun i => add1_getD U a b c i ha
  have q2 : ∀ i, (add1 (add1 U a b c) b a c).getD i 0 = if i = b then (add1 U a b c).getD b 0 ||| 2 ^ a ||| 2 ^ c else (add1 U a b c).getD i 0 := fun i => add1_getD _ _ _ _ i (by rw [add1_length]; exact hb)
  unfold add3
  rw [add1_getD _ _ _ _ _ (by rw [add1_length, add1_length]; exact hc), q2, q2, q1, q1, q1]
  rw [if_neg (show ¬ c = b from fun e => hbc e.symm), if_neg (show ¬ c = a from fun e => hac e.symm), if_neg (show ¬ b = a from fun e => hab e.symm)]
  by_cases h1 : x = a
  · subst h1
    rw [if_neg hac, if_neg hab, if_pos rfl, if_pos rfl]
  · by_cases h2 : x = b
    · subst h2
      rw [if_neg hbc, if_pos rfl, if_neg h1, if_pos rfl]
    · by_cases h3 : x = c
      · subst h3
        rw [if_pos rfl, if_neg h1, if_neg h2, if_pos rfl]
      · rw [if_neg h3, if_neg h2, if_neg h1, if_neg h1, if_neg h2, if_neg h3]
theorem pairIn_snoc (os : List (List Int)) (r : List Int) (x y : Nat) : pairIn (os ++ [r]) x y = (pairIn os x y || ((sT r).testBit x && (sT r).testBit y)) := by
  unfold pairIn
  rw [List.any_append]
  simp
theorem UsOk_zero (n : Nat) : UsOk n [] (List.replicate n 0) := by
  refine ⟨by simp, fun x hx => ?_⟩
  have e : (List.replicate n 0).getD x 0 = 0 := by
    rw [List.getD_eq_getElem?_getD, List.getElem?_replicate]
    split <;> rfl
  rw [e]
  exact ⟨by omega, fun y _ _ => by simp [pairIn]⟩
theorem UsOk_add (n : Nat) (os : List (List Int)) (U : List Nat) (a b c : Nat) (hU : UsOk n os U) (h8 : n ≤ 8) (ha : a < n) (hb : b < n) (hc : c < n) (hab : a ≠ b) (hbc : b ≠ c) (hac : a ≠ c) :
    UsOk n (os ++ [tri3 a b c]) (add3 U a b c) := by
  obtain ⟨hl, hU⟩ := hU
  have p1 := Nat.pow_lt_pow_right (a := 2) (by omega) (show a < 8 by omega)
  have p2 := Nat.pow_lt_pow_right (a := 2) (by omega) (show b < 8 by omega)
  have p3 := Nat.pow_lt_pow_right (a := 2) (by omega) (show c < 8 by omega)
  refine ⟨by unfold add3; rw [add1_length, add1_length, add1_length, hl], fun x hx => ?_⟩
  rw [add3_getD U a b c x (by omega) (by omega) (by omega) hab hbc hac]
  constructor
  · split
    · exact Nat.or_lt_two_pow (n := 8) (Nat.or_lt_two_pow (n := 8) (hU a ha).1 p2) p3
    · split
      · exact Nat.or_lt_two_pow (n := 8) (Nat.or_lt_two_pow (n := 8) (hU b hb).1 p1) p3
      · split
        · exact Nat.or_lt_two_pow (n := 8) (Nat.or_lt_two_pow (n := 8) (hU c hc).1 p1) p2
        · exact (hU x hx).1
  · intro y hy hxy
    rw [pairIn_snoc, sT_tri, ← (hU x hx).2 y hy hxy]
    simp only [Nat.testBit_or, Nat.testBit_two_pow]
    split
    · rename_i h; subst h
      have e1 : decide (x = y) = false := decide_eq_false hxy
      simp only [Nat.testBit_or, Nat.testBit_two_pow, e1]
      simp [Bool.or_assoc]
    · split
      · rename_i h1 h; subst h
        have e1 : decide (x = y) = false := decide_eq_false hxy
        simp only [Nat.testBit_or, Nat.testBit_two_pow, e1]
        simp [Bool.or_assoc]
      · split
        · rename_i h1 h2 h; subst h
          have e1 : decide (x = y) = false := decide_eq_false hxy
          simp only [Nat.testBit_or, Nat.testBit_two_pow, e1]
          simp [Bool.or_assoc]
        · rename_i h1 h2 h3
          have e1 : decide (a = x) = false := decide_eq_false (fun e => h1 e.symm)
          have e2 : decide (b = x) = false := decide_eq_false (fun e => h2 e.symm)
          have e3 : decide (c = x) = false := decide_eq_false (fun e => h3 e.symm)
          rw [e1, e2, e3]
          simp
end Go.Proofs.Ytkdfjkocfejfjaa
