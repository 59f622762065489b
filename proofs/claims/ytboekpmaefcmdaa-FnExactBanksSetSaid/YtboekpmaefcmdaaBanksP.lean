/- The Banks set: plain laws. No program. -/
import Derived.Test.YtboekpmaefcmdaaOn
namespace Go.Proofs.Ytboekpmaefcmdaa
open Go.RowKit

/-- Those of y whom a does not beat. -/
def notB (W : List Nat) (y a : Nat) : Nat := ofB 8 (fun i => y.testBit i && !(W.getD a 0).testBit i)
/-- a beats all the others of y. -/
def topA (W : List Nat) (y a : Nat) : Bool := notB W y a == 2 ^ a
def topB (W : List Nat) (y a : Nat) : Bool := y.testBit a && topA W y a
def tops (W : List Nat) (y : Nat) : Nat := ofB W.length (topB W y)
/-- Someone beats all of y. -/
def covB (W : List Nat) (y : Nat) : Bool := (List.range W.length).any fun a => notB W y a == 0
def bkT (W : List Nat) (y : Nat) : Nat := if onB W y && !covB W y then tops W y else 0
def bkJ (W : List Nat) : Nat → Nat
  | 0 => 0
  | j + 1 => bkJ W j ||| bkT W (j + 1)
theorem tops_lt (W : List Nat) (y : Nat) : tops W y < 2 ^ W.length := ofB_lt _ _
theorem bkT_lt (W : List Nat) (y : Nat) : bkT W y < 2 ^ W.length := by unfold bkT; split; exact tops_lt W y; exact Nat.two_pow_pos _
theorem bkJ_lt (W : List Nat) (j : Nat) : bkJ W j < 2 ^ W.length := by
  induction j with
  | zero => exact Nat.two_pow_pos _
  | succ j ih => exact Nat.or_lt_two_pow ih (bkT_lt W (j + 1))
theorem notB_bit (W : List Nat) (y a i : Nat) (hi : i < 8) : (notB W y a).testBit i = (y.testBit i && !bt W a i) := by
  unfold notB
  rw [testBit_ofB, decide_eq_true hi]
  rfl
theorem top_one {W : List Nat} (hT : IsT W) {y a b : Nat} (hy : y < 2 ^ W.length) (ha : topB W y a = true) (hb : topB W y b = true) : a = b := by
  unfold topB topA at ha hb
  simp only [Bool.and_eq_true, beq_iff_eq] at ha hb
  have h8 := hT.h8
  have han := bit_lt hy ha.1
  have hbn := bit_lt hy hb.1
  refine Classical.byContradiction fun hne => ?_
  have h1 := notB_bit W y a b (by omega)
  have h2 := notB_bit W y b a (by omega)
  rw [ha.2, hb.1, Nat.testBit_two_pow, decide_eq_false hne] at h1
  rw [hb.2, ha.1, Nat.testBit_two_pow, decide_eq_false (fun h => hne h.symm)] at h2
  rw [hT.pair a b han hbn hne] at h1
  cases e : bt W b a <;> rw [e] at h1 h2 <;> simp at h1 h2
/-- The reference's first one: the last of the first k. -/
def fsK (W : List Nat) (y : Nat) : Nat → Nat
  | 0 => 0
  | k + 1 => if topB W y k then 2 ^ k else fsK W y k
theorem fsK_is {W : List Nat} (hT : IsT W) {y : Nat} (hy : y < 2 ^ W.length) (k : Nat) : fsK W y k = ofB k (topB W y) := by
  induction k with
  | zero => rfl
  | succ k ih =>
    rw [fsK]
    unfold ofB
    cases h : topB W y k with
    | false => simp [ih]
    | true =>
      have h0 : ofB k (topB W y) = 0 := by
        rcases Nat.eq_zero_or_pos (ofB k (topB W y)) with e | e
        · exact e
        · obtain ⟨i, hi⟩ := bit_some (s := ofB k (topB W y)) (by omega)
          rw [testBit_ofB] at hi
          simp only [Bool.and_eq_true, decide_eq_true_eq] at hi
          have := top_one hT hy hi.2 h
          omega
      rw [h0]; simp
theorem fsK_lt {W : List Nat} (hT : IsT W) {y : Nat} (hy : y < 2 ^ W.length) (k : Nat) (hk : k ≤ W.length) : fsK W y k < 256 := by
  rw [fsK_is hT hy]
  have h8 := hT.h8
  exact Nat.lt_of_lt_of_le (ofB_lt _ _) (pow_le8 k (by omega))
/-- Nobody of the first k beats all of y. -/
def fuK (W : List Nat) (y k : Nat) : Bool := !((List.range k).any fun a => notB W y a == 0)
theorem fuK_succ (W : List Nat) (y k : Nat) : fuK W y (k + 1) = (fuK W y k && !(notB W y k == 0)) := by
  unfold fuK
  rw [List.range_succ, List.any_append, Bool.not_or]
  simp
theorem fuK_end (W : List Nat) (y : Nat) : fuK W y W.length = !covB W y := rfl
/-- The program's set while the members of y are tried. -/
def orK (W : List Nat) (y : Nat) (out : Nat) (ms : List Nat) : Nat := ms.foldl (fun v a => if topA W y a then v ||| 2 ^ a else v) out
theorem orK_snoc (W : List Nat) (y out : Nat) (ms : List Nat) (k : Nat) (hk : k < ms.length) : orK W y out (ms.take (k + 1)) = if topA W y ms[k] then orK W y out (ms.take k) ||| 2 ^ ms[k] else orK W y out (ms.take k) := by
  unfold orK
  rw [List.take_succ_eq_append_getElem hk, List.foldl_append]
  rfl
theorem orK_bit (W : List Nat) (y : Nat) (ms : List Nat) (i : Nat) : ∀ out, (orK W y out ms).testBit i = (out.testBit i || (ms.contains i && topA W y i)) := by
  induction ms with
  | nil => intro out; simp [orK]
  | cons a ms ih =>
    intro out
    show (orK W y (if topA W y a then out ||| 2 ^ a else out) ms).testBit i = _
    rw [ih, List.contains_cons]
    by_cases e : i = a
    · subst e
      cases h : topA W y i
      · simp [h]
      · simp [h, Nat.testBit_or]
    · have e2 : (i == a) = false := by simpa using e
      rw [e2]
      cases h : topA W y a
      · simp [h]
      · rw [if_pos rfl, Nat.testBit_or, Nat.testBit_two_pow, decide_eq_false (fun h => e h.symm)]
        simp
theorem orK_end {W : List Nat} (hT : IsT W) {y : Nat} (hy : y < 2 ^ W.length) (out : Nat) : orK W y out (mem 8 y) = out ||| tops W y := by
  refine Nat.eq_of_testBit_eq fun i => ?_
  have h8 := hT.h8
  rw [orK_bit, Nat.testBit_or]
  unfold tops
  rw [testBit_ofB]
  unfold topB
  congr 1
  cases hyi : y.testBit i with
  | false =>
    have : (mem 8 y).contains i = false := by
      rw [List.contains_eq_mem, decide_eq_false_iff_not, mem_mem]
      simp [hyi]
    rw [this]; simp
  | true =>
    have hin := bit_lt hy hyi
    have : (mem 8 y).contains i = true := by
      rw [List.contains_eq_mem, decide_eq_true_eq, mem_mem]
      exact ⟨by omega, hyi⟩
    rw [this, decide_eq_true hin]
    simp
theorem orK_lt {W : List Nat} (hT : IsT W) {y out : Nat} (hy : y < 2 ^ W.length) (ho : out < 2 ^ W.length) (k : Nat) : orK W y out ((mem 8 y).take k) < 2 ^ W.length := by
  refine Nat.lt_pow_two_of_testBit _ fun i hi => ?_
  rw [orK_bit]
  have h1 : out.testBit i = false := Nat.testBit_lt_two_pow (Nat.lt_of_lt_of_le ho (Nat.pow_le_pow_right (by omega) hi))
  have h2 : ((mem 8 y).take k).contains i = false := by
    rw [List.contains_eq_mem, decide_eq_false_iff_not]
    intro hm
    have h3 := (mem_mem 8 y i).1 (List.mem_of_mem_take hm)
    have := bit_lt hy h3.2
    omega
  rw [h1, h2]; rfl
/-- Covering, as the program asks it. -/
theorem cov_and (W : List Nat) (hT : IsT W) (y a : Nat) (hy : y < 256) : ((W.getD a 0 &&& y) == y) = (notB W y a == 0) := by
  have hw := hT.lt256 a
  rw [Bool.eq_iff_iff, beq_iff_eq, beq_iff_eq]
  constructor
  · intro h
    refine Nat.eq_of_testBit_eq fun i => ?_
    rw [Nat.zero_testBit]
    unfold notB
    rw [testBit_ofB]
    have h1 := congrArg (fun x => x.testBit i) h
    simp only [Nat.testBit_and] at h1
    cases hyi : y.testBit i
    · simp
    · rw [hyi] at h1
      simp at h1
      simp [h1]
  · intro h
    refine Nat.eq_of_testBit_eq fun i => ?_
    rw [Nat.testBit_and]
    cases hyi : y.testBit i
    · simp
    · have hy8 : y < 2 ^ 8 := hy
      have h2 := notB_bit W y a i (bit_lt hy8 hyi)
      rw [h, hyi, Nat.zero_testBit] at h2
      have h3 : bt W a i = true := by cases e : bt W a i <;> rw [e] at h2 <;> simp_all
      have h4 : (W.getD a 0).testBit i = true := h3
      rw [h4]; rfl
theorem cov_any (W : List Nat) (hT : IsT W) (y : Nat) (hy : y < 256) : ((casts W).any fun z => (z.toNat &&& y) == y) = covB W y := by
  unfold covB
  rw [Bool.eq_iff_iff, List.any_eq_true, List.any_eq_true]
  constructor
  · rintro ⟨z, hz, h⟩
    obtain ⟨a, ha, e⟩ := List.mem_iff_getElem.1 hz
    rw [casts_length] at ha
    refine ⟨a, List.mem_range.2 ha, ?_⟩
    rw [← cov_and W hT y a hy, getD_lt _ _ _ ha]
    have e2 : z = (W[a] : Nat) := by rw [← e]; simp [casts]
    rw [e2, Int.toNat_natCast] at h
    exact h
  · rintro ⟨a, ha, h⟩
    rw [List.mem_range] at ha
    refine ⟨((W[a] : Nat) : Int), ?_, ?_⟩
    · unfold casts; exact List.mem_map.2 ⟨W[a], List.getElem_mem ha, rfl⟩
    · rw [← cov_and W hT y a hy, getD_lt _ _ _ ha] at h
      rw [Int.toNat_natCast]
      exact h
def rBanksSet (s : Int) (zs : List Int) : Int := if okB s zs then (bkJ (toW zs) (2 ^ (toW zs).length - 1) : Nat) else 0
end Go.Proofs.Ytboekpmaefcmdaa
