/- Reached players, strong parts: plain laws. No program. -/
import Derived.Test.YtaocjjocncoahaaMg3
import Derived.Test.YtaocjjocncoahaaDom
import Derived.Test.YtaocjjocncoahaaTriang
import Derived.Test.YtaocjjocncoahaaScore
namespace Go.Proofs.Ytaocjjocncoahaa
open Go.RowKit

/-- s lies in t. -/
def Sub (s t : Nat) : Prop := ∀ i, s.testBit i = true → t.testBit i = true
theorem Sub.refl (s : Nat) : Sub s s := fun _ h => h
theorem Sub.trans {a b c : Nat} (h : Sub a b) (k : Sub b c) : Sub a c := fun i hi => k i (h i hi)
theorem Sub.antisymm {a b : Nat} (h : Sub a b) (k : Sub b a) : a = b := Nat.eq_of_testBit_eq fun i => by
  cases ha : a.testBit i
  · cases hb : b.testBit i
    · rfl
    · have := k i hb
      rw [ha] at this
      cases this
  · exact (h i ha).symm
theorem cntB_mono (n : Nat) (f g : Nat → Bool) (h : ∀ i, i < n → f i = true → g i = true) : cntB n f ≤ cntB n g := by
  induction n with
  | zero => exact Nat.le_refl _
  | succ n ih =>
    have h1 := ih (fun i hi => h i (by omega))
    have h2 := h n (by omega)
    unfold cntB
    cases hf : f n <;> cases hg : g n <;> simp [hf, hg] at * <;> omega
theorem cntB_strict (n : Nat) (f g : Nat → Bool) (h : ∀ i, i < n → f i = true → g i = true) (i : Nat) (hi : i < n) (hf : f i = false) (hg : g i = true) : cntB n f < cntB n g := by
  have h1 := cntB_remove n i g hi hg
  have h2 := cntB_mono n f (fun j => g j && decide (j ≠ i)) (fun j hj hfj => by
    have := h j hj hfj
    by_cases e : j = i
    · subst e; rw [hf] at hfj; cases hfj
    · simp [this, e])
  omega
theorem bit_lt {t n i : Nat} (ht : t < 2 ^ n) (h : t.testBit i = true) : i < n := by
  rcases Nat.lt_or_ge i n with h1 | h1
  · exact h1
  · rw [Nat.testBit_lt_two_pow (Nat.lt_of_lt_of_le ht (Nat.pow_le_pow_right (by omega) h1))] at h
    cases h
theorem bit_diff {s t : Nat} (h : s ≠ t) : ∃ i, s.testBit i ≠ t.testBit i :=
  Classical.byContradiction fun hc => h (Nat.eq_of_testBit_eq fun i => Classical.byContradiction fun hi => hc ⟨i, hi⟩)
theorem bit_some {s : Nat} (h : s ≠ 0) : ∃ i, s.testBit i = true := by
  obtain ⟨i, hi⟩ := bit_diff h
  exact ⟨i, by simpa using hi⟩
theorem sub_diff {s t : Nat} (h : Sub s t) (hne : s ≠ t) : ∃ i, s.testBit i = false ∧ t.testBit i = true := by
  obtain ⟨i, hi⟩ := bit_diff hne
  refine ⟨i, ?_⟩
  have := h i
  cases hs : s.testBit i <;> cases ht : t.testBit i <;> simp_all
theorem pc_mono {s t : Nat} (h : Sub s t) : pc 8 s ≤ pc 8 t := by
  rw [pc_cntB, pc_cntB]
  exact cntB_mono 8 _ _ fun i _ hi => h i hi
theorem pc_strict {s t : Nat} (ht : t < 256) (h : Sub s t) (hne : s ≠ t) : pc 8 s < pc 8 t := by
  rw [pc_cntB, pc_cntB]
  obtain ⟨i, h1, h2⟩ := sub_diff h hne
  have ht' : t < 2 ^ 8 := ht
  exact cntB_strict 8 _ _ (fun i _ hi => h i hi) i (bit_lt ht' h2) h1 h2
theorem sub_sets {s t : Nat} (hs : s < 256) (ht : t < 256) (h : Sub t s) : s - t = ofB 8 (fun i => s.testBit i && !t.testBit i) ∧ t ≤ s := by
  have h1 := ofB_add 8 (fun i => s.testBit i && !t.testBit i) t.testBit (fun i _ => by cases s.testBit i <;> cases t.testBit i <;> rfl)
  have e1 : ofB 8 t.testBit = t := ofB_testBit 8 t ht
  have e2 : ofB 8 (fun i => (s.testBit i && !t.testBit i) || t.testBit i) = s := (eq_ofB 8 s _ hs fun i _ => by
    have := h i
    cases hs' : s.testBit i <;> cases ht' : t.testBit i <;> simp_all).symm
  rw [e1, e2] at h1
  constructor <;> omega
theorem bit_sub_sets {s t : Nat} (hs : s < 256) (ht : t < 256) (h : Sub t s) (i : Nat) : (s - t).testBit i = (s.testBit i && !t.testBit i) := by
  rw [(sub_sets hs ht h).1, testBit_ofB]
  by_cases hi : i < 8
  · rw [decide_eq_true hi, Bool.true_and]
  · have : s.testBit i = false := by
      cases e : s.testBit i
      · rfl
      · have hs' : s < 2 ^ 8 := hs
        exact absurd (bit_lt hs' e) hi
    rw [this, decide_eq_false hi]
    rfl

theorem uni_bit (W : List Nat) (ms : List Nat) (i : Nat) : ∀ s, (uni W s ms).testBit i = (s.testBit i || ms.any fun a => bt W a i) := by
  induction ms with
  | nil => intro s; simp [uni]
  | cons a ms ih =>
    intro s
    show (uni W (s ||| W.getD a 0) ms).testBit i = _
    rw [ih, Nat.testBit_or, List.any_cons, Bool.or_assoc]
    rfl
/-- A set and all whom it beats. -/
def nx (W : List Nat) (s : Nat) : Nat := uni W s (mem 8 s)
/-- Nobody in s beats someone out of it. -/
def Cl (W : List Nat) (s : Nat) : Prop := ∀ x y, s.testBit x = true → bt W x y = true → s.testBit y = true
theorem nx_sub (W : List Nat) (s : Nat) : Sub s (nx W s) := fun i hi => by unfold nx; rw [uni_bit, hi]; rfl
theorem nx_lt (W : List Nat) (hT : IsT W) (s : Nat) (hs : s < 2 ^ W.length) : nx W s < 2 ^ W.length := uni_lt W _ hT.lt _ s hs
theorem nx_in (W : List Nat) {s C : Nat} (hC : Cl W C) (h : Sub s C) : Sub (nx W s) C := fun i hi => by
  unfold nx at hi
  rw [uni_bit, Bool.or_eq_true] at hi
  rcases hi with hi | hi
  · exact h i hi
  · obtain ⟨a, ha, hb⟩ := List.any_eq_true.1 hi
    exact hC a i (h a ((mem_mem 8 s a).1 ha).2) hb
theorem nx_fix (W : List Nat) {s : Nat} (hs : s < 256) (h : nx W s = s) : Cl W s := fun x y hx hb => by
  have hs' : s < 2 ^ 8 := hs
  have e : (nx W s).testBit y = true := by
    unfold nx
    rw [uni_bit, Bool.or_eq_true]
    exact .inr (List.any_eq_true.2 ⟨x, (mem_mem 8 s x).2 ⟨bit_lt hs' hx, hx⟩, hb⟩)
  rwa [h] at e
def rcF (W : List Nat) : Nat → Nat → Nat
  | 0, s => s
  | f + 1, s => if nx W s = s then s else rcF W f (nx W s)
/-- Whom a reaches, and a. -/
def rc (W : List Nat) (a : Nat) : Nat := rcF W 8 (2 ^ a)
structure Rch (W : List Nat) (s r : Nat) : Prop where
  fix : nx W r = r
  lt : r < 2 ^ W.length
  sub : Sub s r
  least : ∀ C, Cl W C → Sub s C → Sub r C
theorem nx_more (W : List Nat) (hT : IsT W) (s : Nat) (hs : s < 2 ^ W.length) (e : ¬ nx W s = s) : pc 8 s < pc 8 (nx W s) ∧ s < nx W s ∧ nx W s < 2 ^ W.length := by
  have h8 := pow_le8 W.length hT.h8
  have hl := nx_lt W hT s hs
  have h1 := pc_strict (s := s) (t := nx W s) (by omega) (nx_sub W s) (fun h => e h.symm)
  have h2 := (sub_sets (s := nx W s) (t := s) (by omega) (by omega) (nx_sub W s)).2
  exact ⟨h1, by omega, hl⟩
theorem rcF_ok (W : List Nat) (hT : IsT W) : ∀ (f s : Nat), s < 2 ^ W.length → 9 ≤ pc 8 s + f → Rch W s (rcF W f s)
  | 0, s, _, hp => by have := pc_le 8 s; omega
  | f + 1, s, hs, hp => by
    unfold rcF
    by_cases e : nx W s = s
    · rw [if_pos e]; exact ⟨e, hs, Sub.refl s, fun C _ h => h⟩
    · rw [if_neg e]
      obtain ⟨h1, _, hl⟩ := nx_more W hT s hs e
      have r := rcF_ok W hT f (nx W s) hl (by omega)
      exact ⟨r.fix, r.lt, (nx_sub W s).trans r.sub, fun C hC h => r.least C hC (nx_in W hC h)⟩
theorem pow_bitS (a i : Nat) : (2 ^ a).testBit i = true ↔ i = a := by rw [Nat.testBit_two_pow, decide_eq_true_eq]; exact eq_comm
theorem pc_pow (a : Nat) (ha : a < 8) : pc 8 (2 ^ a) = 1 := by
  have h2 : (2 : Nat) ^ a < 256 := Nat.lt_of_lt_of_le (Nat.pow_lt_pow_right (by omega) ha) (by decide)
  have h := pc_sub (2 ^ a) a h2 ha ((pow_bitS a a).2 rfl)
  rw [Nat.sub_self, (pc_zero 0 (by omega)).2 rfl] at h
  exact h
section
variable {W : List Nat} (hT : IsT W)
include hT
theorem rc_ok {a : Nat} (ha : a < W.length) : Rch W (2 ^ a) (rc W a) := by
  have h8 := hT.h8
  exact rcF_ok W hT 8 (2 ^ a) (Nat.pow_lt_pow_right (by omega) ha) (by rw [pc_pow a (by omega)]; omega)
theorem rc_lt {a : Nat} (ha : a < W.length) : rc W a < 2 ^ W.length := (rc_ok hT ha).lt
theorem rc_self {a : Nat} (ha : a < W.length) : (rc W a).testBit a = true := (rc_ok hT ha).sub a ((pow_bitS a a).2 rfl)
theorem rc_cl {a : Nat} (ha : a < W.length) : Cl W (rc W a) := nx_fix W (by have := pow_le8 W.length hT.h8; have := rc_lt hT ha; omega) (rc_ok hT ha).fix
theorem rc_min {a C : Nat} (ha : a < W.length) (hC : Cl W C) (h : C.testBit a = true) : Sub (rc W a) C := (rc_ok hT ha).least C hC fun i hi => by rwa [(pow_bitS a i).1 hi]
theorem rc_in {a b : Nat} (ha : a < W.length) (hb : b < W.length) (h : (rc W a).testBit b = true) : Sub (rc W b) (rc W a) := rc_min hT hb (rc_cl hT ha) h
theorem rc_chain {a b : Nat} (ha : a < W.length) (hb : b < W.length) : Sub (rc W b) (rc W a) ∨ Sub (rc W a) (rc W b) := by
  by_cases e : a = b
  · subst e; exact .inl (Sub.refl _)
  · cases h : bt W a b
    · have := hT.pair b a hb ha (fun h => e h.symm)
      rw [h] at this
      exact .inr (rc_in hT hb ha (rc_cl hT hb b a (rc_self hT hb) this))
    · exact .inl (rc_in hT ha hb (rc_cl hT ha a b (rc_self hT ha) h))
/-- Who reaches more has a greater score. -/
theorem rc_score {a b : Nat} (ha : a < W.length) (hb : b < W.length) (h : ¬ Sub (rc W b) (rc W a)) : sc W a < sc W b := by
  have hnb : (rc W a).testBit b = false := by
    cases e : (rc W a).testBit b
    · rfl
    · exact absurd (rc_in hT ha hb e) h
  have hall : ∀ x, x < W.length → (rc W a).testBit x = true → bt W b x = true := fun x hx hm => by
    have hne : b ≠ x := fun e => by subst e; rw [hnb] at hm; cases hm
    rw [hT.pair b x hb hx hne]
    cases e : bt W x b
    · rfl
    · rw [rc_cl hT ha x b hm e] at hnb; cases hnb
  have hs : Sub (W.getD a 0) (W.getD b 0) := fun i hi => by
    have hi' : bt W a i = true := hi
    have hin : i < W.length := by
      rcases Nat.lt_or_ge i W.length with h1 | h1
      · exact h1
      · rw [hT.out a i h1] at hi'; cases hi'
    exact hall i hin (rc_cl hT ha a i (rc_self hT ha) hi')
  unfold sc
  refine pc_strict (hT.lt256 b) hs fun e => ?_
  have h1 : bt W b a = true := hall a ha (rc_self hT ha)
  have h2 : bt W a a = false := hT.self a
  unfold bt at h1 h2
  rw [e, h1] at h2
  cases h2
/-- Those of a set who reach all of it. -/
def firstS (W : List Nat) (left : Nat) : Nat := ofB W.length (fun a => left.testBit a && (rc W a == left))
omit hT in
theorem firstS_bit (left i : Nat) : (firstS W left).testBit i = (decide (i < W.length) && (left.testBit i && (rc W i == left))) := testBit_ofB _ _ _
omit hT in
theorem firstS_sub (left : Nat) : Sub (firstS W left) left := fun i hi => by
  rw [firstS_bit] at hi
  simp only [Bool.and_eq_true] at hi
  exact hi.2.1
omit hT in
theorem firstS_lt (left : Nat) : firstS W left < 2 ^ W.length := ofB_lt _ _
theorem firstS_some {left : Nat} (hC : Cl W left) (hl : left < 2 ^ W.length) (h0 : left ≠ 0) : ∃ a, a < W.length ∧ left.testBit a = true ∧ rc W a = left := by
  have h8 := pow_le8 W.length hT.h8
  refine Classical.byContradiction fun hc => ?_
  have key : ∀ k, ∃ a, a < W.length ∧ left.testBit a = true ∧ k ≤ pc 8 (rc W a) := by
    intro k
    induction k with
    | zero =>
      obtain ⟨a, ha⟩ := bit_some h0
      exact ⟨a, bit_lt hl ha, ha, Nat.zero_le _⟩
    | succ k ih =>
      obtain ⟨a, ha, hm, hk⟩ := ih
      have hne : rc W a ≠ left := fun e => hc ⟨a, ha, hm, e⟩
      obtain ⟨x, hx, hx2⟩ := sub_diff (rc_min hT ha hC hm) hne
      have hxn := bit_lt hl hx2
      rcases rc_chain hT ha hxn with h | h
      · rw [h x (rc_self hT hxn)] at hx; cases hx
      · refine ⟨x, hxn, hx2, ?_⟩
        have := pc_strict (by have := rc_lt hT hxn; omega) h (fun e => by rw [e, rc_self hT hxn] at hx; cases hx)
        omega
  obtain ⟨a, _, _, h9⟩ := key 9
  have := pc_le 8 (rc W a)
  omega
theorem rest_ok {left : Nat} (hC : Cl W left) (hl : left < 2 ^ W.length) :
    Cl W (left - firstS W left) ∧ left - firstS W left < 2 ^ W.length ∧ (∀ i, (left - firstS W left).testBit i = (left.testBit i && !(rc W i == left))) ∧ (left ≠ 0 → pc 8 (left - firstS W left) < pc 8 left) := by
  have h8 := pow_le8 W.length hT.h8
  have hf := firstS_lt (W := W) left
  have hb : ∀ i, (left - firstS W left).testBit i = (left.testBit i && !(rc W i == left)) := fun i => by
    rw [bit_sub_sets (by omega) (by omega) (firstS_sub left), firstS_bit]
    cases hli : left.testBit i
    · rfl
    · rw [decide_eq_true (bit_lt hl hli)]
      simp
  refine ⟨fun x y hx hxy => ?_, by omega, hb, fun h0 => ?_⟩
  · rw [hb, Bool.and_eq_true] at hx
    obtain ⟨hx1, hx2⟩ := hx
    have hy := hC x y hx1 hxy
    have hxn := bit_lt hl hx1
    have hyn := bit_lt hl hy
    rw [hb, hy]
    simp only [Bool.true_and, Bool.not_eq_true', beq_eq_false_iff_ne] at *
    intro e
    apply hx2
    refine Sub.antisymm (rc_min hT hxn hC hx1) ?_
    rw [← e]
    exact rc_in hT hxn hyn (rc_cl hT hxn x y (rc_self hT hxn) hxy)
  · obtain ⟨a, ha, hm, e⟩ := firstS_some hT hC hl h0
    refine pc_strict (by omega) (fun i hi => ?_) fun e2 => ?_
    · rw [hb, Bool.and_eq_true] at hi; exact hi.1
    · have := hb a
      rw [e2, hm, e] at this
      simp at this
omit hT in
def spF (W : List Nat) : Nat → Nat → List Nat
  | 0, _ => []
  | f + 1, left => if left = 0 then [] else firstS W left :: spF W f (left - firstS W left)
omit hT in
theorem spF_zero (W : List Nat) (f : Nat) : spF W f 0 = [] := by cases f <;> rfl
theorem spF_fuel : ∀ (f f' left : Nat), Cl W left → left < 2 ^ W.length → pc 8 left ≤ f → pc 8 left ≤ f' → spF W f left = spF W f' left
  | 0, f', left, _, hl, hp, _ => by
    have h8 := pow_le8 W.length hT.h8
    have e : left = 0 := (pc_zero left (by omega)).1 (by omega)
    subst e
    rw [spF_zero, spF_zero]
  | f + 1, 0, left, _, hl, _, hp => by
    have h8 := pow_le8 W.length hT.h8
    have e : left = 0 := (pc_zero left (by omega)).1 (by omega)
    subst e
    rw [spF_zero, spF_zero]
  | f + 1, f' + 1, left, hC, hl, h1, h2 => by
    unfold spF
    by_cases e : left = 0
    · rw [if_pos e, if_pos e]
    · rw [if_neg e, if_neg e]
      obtain ⟨q1, q2, _, q4⟩ := rest_ok hT hC hl
      have := q4 e
      rw [spF_fuel f f' _ q1 q2 (by omega) (by omega)]
/-- The strong parts of a closed set, those who beat the others first. -/
def spL (W : List Nat) (left : Nat) : List Nat := spF W 8 left
omit hT in
theorem spL_zero (W : List Nat) : spL W 0 = [] := spF_zero W 8
theorem spL_step {left : Nat} (hC : Cl W left) (hl : left < 2 ^ W.length) (h0 : left ≠ 0) : spL W left = firstS W left :: spL W (left - firstS W left) := by
  obtain ⟨q1, q2, _, q4⟩ := rest_ok hT hC hl
  have := q4 h0
  have h8 := pc_le 8 left
  have e : spL W left = spF W 9 left := spF_fuel hT 8 9 left hC hl (by omega) (by omega)
  rw [e]
  show (if left = 0 then [] else firstS W left :: spF W 8 (left - firstS W left)) = _
  rw [if_neg h0]
  rfl
omit hT in
theorem cl_zero (W : List Nat) : Cl W 0 := fun x y hx _ => by simp at hx
theorem cl_all : Cl W (2 ^ W.length - 1) := fun x y _ hxy => by
  refine all_bit W.length y ?_
  rcases Nat.lt_or_ge y W.length with h1 | h1
  · exact h1
  · rw [hT.out x y h1] at hxy; cases hxy
/-- The next one of the program's parts. -/
theorem part_step {K a : Nat} (hK : Cl W K) (hKl : K < 2 ^ W.length) (hsub : Sub K (rc W a)) (ha : a < W.length) (hna : K.testBit a = false)
    (hall : ∀ x, x < W.length → K.testBit x = false → Sub (rc W a) (rc W x)) :
    spL W (rc W a) = ofB 8 (fun i => (rc W a).testBit i && !K.testBit i) :: spL W K ∧ K ||| rc W a = rc W a := by
  have h8 := pow_le8 W.length hT.h8
  have hl := rc_lt hT ha
  have hf : firstS W (rc W a) = rc W a - K := by
    refine Nat.eq_of_testBit_eq fun i => ?_
    rw [firstS_bit, bit_sub_sets (by omega) (by omega) hsub]
    cases hi : (rc W a).testBit i
    · simp
    · have hin := bit_lt hl hi
      rw [decide_eq_true hin]
      simp only [Bool.true_and]
      cases hKi : K.testBit i
      · have := Sub.antisymm (rc_in hT ha hin hi) (hall i hin hKi)
        rw [this]
        simp
      · have hne : rc W i ≠ rc W a := fun e => by
          have := rc_min hT hin hK hKi a (by rw [e]; exact rc_self hT ha)
          rw [hna] at this
          cases this
        simpa using hne
  have h0 : rc W a ≠ 0 := fun e => by have := rc_self hT ha; rw [e] at this; simp at this
  have hle := (sub_sets (s := rc W a) (t := K) (by omega) (by omega) hsub)
  constructor
  · rw [spL_step hT (rc_cl hT ha) hl h0, hf, ← hle.1]
    congr 2
    have := hle.2
    omega
  · refine Nat.eq_of_testBit_eq fun i => ?_
    rw [Nat.testBit_or]
    have := hsub i
    cases hKi : K.testBit i <;> cases hri : (rc W a).testBit i <;> simp_all
end
/-- The players by their scores, the greatest first. -/
structure ByScore (W os : List Nat) : Prop where
  perm : os.Perm (List.range W.length)
  desc : ∀ i j, i < j → j < W.length → sc W (os.getD j 0) ≤ sc W (os.getD i 0)
theorem ByScore.length {W os : List Nat} (h : ByScore W os) : os.length = W.length := by rw [h.perm.length_eq, List.length_range]
theorem ByScore.lt {W os : List Nat} (h : ByScore W os) {i : Nat} (hi : i < W.length) : os.getD i 0 < W.length := by
  have hl := h.length
  rw [getD_lt _ _ _ (by omega)]
  have := h.perm.mem_iff.1 (List.getElem_mem (l := os) (n := i) (by omega))
  simpa using this
theorem ByScore.at_ {W os : List Nat} (h : ByScore W os) {x : Nat} (hx : x < W.length) : ∃ i, i < W.length ∧ os.getD i 0 = x := by
  have hl := h.length
  obtain ⟨i, hi, e⟩ := List.mem_iff_getElem.1 (h.perm.mem_iff.2 (List.mem_range.2 hx))
  exact ⟨i, by omega, by rw [getD_lt _ _ _ hi]; exact e⟩
theorem ByScore.mono {W os : List Nat} (hT : IsT W) (h : ByScore W os) {i j : Nat} (hij : i ≤ j) (hj : j < W.length) : Sub (rc W (os.getD j 0)) (rc W (os.getD i 0)) := by
  by_cases e : i = j
  · subst e; exact Sub.refl _
  · refine Classical.byContradiction fun hn => ?_
    have := rc_score hT (h.lt (i := i) (by omega)) (h.lt hj) hn
    have := h.desc i j (by omega) hj
    omega
/-- What the program knows when the last k of the order have been looked at: L the parts found, K their players. -/
structure PI (W os : List Nat) (k : Nat) (L : List Nat) (K : Nat) : Prop where
  parts : L.reverse = spL W K
  cl : Cl W K
  lt : K < 2 ^ W.length
  all : ∀ j, W.length - k ≤ j → j < W.length → K.testBit (os.getD j 0) = true
  from_ : K = 0 ∨ ∃ j, W.length - k ≤ j ∧ j < W.length ∧ K = rc W (os.getD j 0)
theorem PI.start (W os : List Nat) : PI W os 0 [] 0 := ⟨by rw [spL_zero]; rfl, cl_zero W, Nat.two_pow_pos _, fun j h1 h2 => by omega, .inl rfl⟩
section
variable {W os L : List Nat} {k K : Nat}
theorem PI.hit (h : PI W os k L K) (hk : k < W.length) (hb : K.testBit (os.getD (W.length - (k + 1)) 0) = true) : PI W os (k + 1) L K :=
  ⟨h.parts, h.cl, h.lt, fun j h1 h2 => by
    by_cases e : j = W.length - (k + 1)
    · subst e; exact hb
    · exact h.all j (by omega) h2, by
    rcases h.from_ with h | ⟨j, h1, h2, h3⟩
    · exact .inl h
    · exact .inr ⟨j, by omega, h2, h3⟩⟩
theorem PI.miss (hT : IsT W) (ho : ByScore W os) (h : PI W os k L K) (hk : k < W.length) (hb : K.testBit (os.getD (W.length - (k + 1)) 0) = false) :
    PI W os (k + 1) (L ++ [ofB 8 (fun i => (rc W (os.getD (W.length - (k + 1)) 0)).testBit i && !K.testBit i)]) (K ||| rc W (os.getD (W.length - (k + 1)) 0)) := by
  have ha := ho.lt (i := W.length - (k + 1)) (by omega)
  have hsub : Sub K (rc W (os.getD (W.length - (k + 1)) 0)) := by
    rcases h.from_ with e | ⟨j, h1, h2, e⟩
    · subst e; intro i hi; simp at hi
    · rw [e]; exact ho.mono hT (by omega) h2
  obtain ⟨p1, p2⟩ := part_step hT h.cl h.lt hsub ha hb (fun x hx hx2 => by
    obtain ⟨j, hj, e⟩ := ho.at_ hx
    have hjk : j ≤ W.length - (k + 1) := by
      refine Classical.byContradiction fun hn => ?_
      have := h.all j (by omega) hj
      rw [e, hx2] at this
      cases this
    rw [← e]
    exact ho.mono hT hjk (by omega))
  rw [p2]
  refine ⟨?_, rc_cl hT ha, rc_lt hT ha, fun j h1 h2 => ?_, .inr ⟨_, Nat.le_refl _, by omega, rfl⟩⟩
  · rw [List.reverse_append, h.parts, p1]
    rfl
  · by_cases e : j = W.length - (k + 1)
    · subst e; exact rc_self hT ha
    · exact hsub _ (h.all j (by omega) h2)
theorem PI.end_ (hT : IsT W) (ho : ByScore W os) (h : PI W os W.length L K) : L.reverse = spL W (2 ^ W.length - 1) := by
  rw [h.parts]
  congr 1
  refine Nat.eq_of_testBit_eq fun i => ?_
  by_cases hi : i < W.length
  · rw [all_bit _ _ hi]
    obtain ⟨j, hj, e⟩ := ho.at_ hi
    rw [← e]
    exact h.all j (by omega) hj
  · have h1 : K.testBit i = false := by
      cases e : K.testBit i
      · rfl
      · exact absurd (bit_lt h.lt e) hi
    rw [h1, Nat.testBit_two_pow_sub_one]
    simp; omega
end
section
variable {W : List Nat} (hT : IsT W)
include hT
/-- One part alone: everyone reaches everyone. -/
theorem parts_one : (spL W (2 ^ W.length - 1)).length = 1 ↔ ∀ a, a < W.length → rc W a = 2 ^ W.length - 1 := by
  have hp := Nat.two_pow_pos W.length
  have h1 := hT.h1
  have h2 : 2 ^ 1 ≤ 2 ^ W.length := Nat.pow_le_pow_right (by omega) h1
  have hC := cl_all hT
  have hl : 2 ^ W.length - 1 < 2 ^ W.length := by omega
  obtain ⟨q1, q2, q3, q4⟩ := rest_ok hT hC hl
  rw [spL_step hT hC hl (by omega), List.length_cons]
  constructor
  · intro h a ha
    have h0 : 2 ^ W.length - 1 - firstS W (2 ^ W.length - 1) = 0 := by
      refine Classical.byContradiction fun hn => ?_
      rw [spL_step hT q1 q2 hn] at h
      simp at h
    have := q3 a
    rw [h0, all_bit _ _ ha] at this
    simpa using this
  · intro h
    have h0 : 2 ^ W.length - 1 - firstS W (2 ^ W.length - 1) = 0 := by
      refine Classical.byContradiction fun hn => ?_
      obtain ⟨i, hi⟩ := bit_some hn
      have hin := bit_lt q2 hi
      rw [q3, h i hin] at hi
      simp at hi
    rw [h0, spL_zero]
    rfl
/-- No two of a set reach the same players. -/
def InjOn (W : List Nat) (left : Nat) : Prop := ∀ a b, left.testBit a = true → left.testBit b = true → rc W a = rc W b → a = b
theorem parts_len : ∀ (m left : Nat), pc 8 left ≤ m → Cl W left → left < 2 ^ W.length → (spL W left).length ≤ pc 8 left ∧ ((spL W left).length = pc 8 left ↔ InjOn W left)
  | 0, left, hm, _, hl => by
    have h8 := pow_le8 W.length hT.h8
    have e : left = 0 := (pc_zero left (by omega)).1 (by omega)
    subst e
    rw [spL_zero, (pc_zero 0 (by omega)).2 rfl]
    refine ⟨Nat.le_refl _, ⟨fun _ a b ha => ?_, fun _ => rfl⟩⟩
    simp at ha
  | m + 1, left, hm, hC, hl => by
    by_cases h0 : left = 0
    · subst h0
      rw [spL_zero, (pc_zero 0 (by omega)).2 rfl]
      refine ⟨Nat.le_refl _, ⟨fun _ a b ha => ?_, fun _ => rfl⟩⟩
      simp at ha
    · have h8 := pow_le8 W.length hT.h8
      obtain ⟨q1, q2, q3, q4⟩ := rest_ok hT hC hl
      have q5 := q4 h0
      obtain ⟨i1, i2⟩ := parts_len m _ (by omega) q1 q2
      rw [spL_step hT hC hl h0, List.length_cons]
      obtain ⟨a, ha, hm1, e⟩ := firstS_some hT hC hl h0
      constructor
      · omega
      · constructor
        · intro hlen x y hx hy hxy
          have i3 := i2.1 (by omega)
          by_cases hx2 : rc W x = left
          · refine Classical.byContradiction fun hne => ?_
            have h2 : pc 8 (left - firstS W left) + 2 ≤ pc 8 left := by
              have hx' : (left - 2 ^ x).testBit y = true := by
                have := bit_lt hl hx
                rw [testBit_sub left x y (by omega) (by have := hT.h8; omega) hx, hy]
                simp; exact fun h => hne h.symm
              have hx8 : x < 8 := by have := bit_lt hl hx; have := hT.h8; omega
              have hs1 := pc_sub left x (by omega) hx8 hx
              have hs2 := pc_strict (s := left - firstS W left) (t := left - 2 ^ x) (Nat.lt_of_le_of_lt (Nat.sub_le _ _) (by omega)) (fun i hi => by
                rw [q3, Bool.and_eq_true] at hi
                rw [testBit_sub left x i (by omega) hx8 hx, hi.1]
                have : i ≠ x := fun e => by subst e; rw [hx2] at hi; simp at hi
                simp [this]) (fun e => by
                have := q3 y
                rw [e, hx', ← hxy, hx2] at this
                simp at this)
              omega
            omega
          · have hx3 : (left - firstS W left).testBit x = true := by rw [q3, hx]; simpa using hx2
            have hy3 : (left - firstS W left).testBit y = true := by rw [q3, hy, ← hxy]; simpa using hx2
            exact i3 x y hx3 hy3 hxy
        · intro hinj
          have i3 := i2.2 (fun x y hx hy hxy => by
            rw [q3, Bool.and_eq_true] at hx hy
            exact hinj x y hx.1 hy.1 hxy)
          have e2 : left - firstS W left = left - 2 ^ a := by
            refine Nat.eq_of_testBit_eq fun i => ?_
            have ha8 : a < 8 := by have := hT.h8; omega
            rw [q3, testBit_sub left a i (by omega) ha8 hm1]
            cases hli : left.testBit i
            · rfl
            · simp only [Bool.true_and]
              by_cases ei : i = a
              · subst ei; rw [e]; simp
              · have : rc W i ≠ left := fun h => ei (hinj i a hli hm1 (h.trans e.symm))
                simp [this, ei]
          have hs1 := pc_sub left a (by omega) (by have := hT.h8; omega) hm1
          rw [e2] at i3 ⊢
          omega
/-- A tour has no triangle. -/
def noTri (W : List Nat) : Prop := ∀ a b c, a < W.length → b < W.length → c < W.length → bt W a b = true → bt W b c = true → bt W c a = true → False
theorem rows_noTri : triRows W = [] ↔ noTri W := by
  constructor
  · intro h a b c ha hb hc h1 h2 h3
    have hab : a ≠ b := fun e => by subst e; rw [hT.self] at h1; cases h1
    have hbc : b ≠ c := fun e => by subst e; rw [hT.self] at h2; cases h2
    have hca : c ≠ a := fun e => by subst e; rw [hT.self] at h3; cases h3
    have key : ∀ x y z, x < W.length → y < W.length → z < W.length → triN W x y z = true → False := fun x y z hx hy hz ht => by
      have hm : tri3 x y z ∈ triRows W := by
        unfold triRows trisA trisB trisC
        rw [List.mem_flatMap]
        refine ⟨x, List.mem_range.2 hx, ?_⟩
        rw [List.mem_flatMap]
        refine ⟨y, List.mem_range.2 hy, ?_⟩
        rw [List.mem_map]
        exact ⟨z, List.mem_filter.2 ⟨List.mem_range.2 hz, ht⟩, rfl⟩
      rw [h] at hm
      cases hm
    unfold triN at key
    rcases Nat.lt_or_ge a b with l1 | l1 <;> rcases Nat.lt_or_ge a c with l2 | l2 <;> rcases Nat.lt_or_ge b c with l3 | l3 <;>
      first
        | omega
        | exact key a b c ha hb hc (by rw [h1, h2, h3, decide_eq_true (show a < b by omega), decide_eq_true (show a < c by omega)]; rfl)
        | exact key b c a hb hc ha (by rw [h1, h2, h3, decide_eq_true (show b < c by omega), decide_eq_true (show b < a by omega)]; rfl)
        | exact key c a b hc ha hb (by rw [h1, h2, h3, decide_eq_true (show c < a by omega), decide_eq_true (show c < b by omega)]; rfl)
  · intro h
    rw [List.eq_nil_iff_forall_not_mem]
    intro r hr
    obtain ⟨a, b, c, ha, hb, hc, _, ht⟩ := triRows_mem W r hr
    unfold triN at ht
    simp only [Bool.and_eq_true] at ht
    exact h a b c ha hb hc ht.1.1.2 ht.1.2 ht.2
theorem noTri_trans (h : noTri W) {a b c : Nat} (h1 : bt W a b = true) (h2 : bt W b c = true) : bt W a c = true := by
  have hn : ∀ x y, bt W x y = true → y < W.length := fun x y hxy => by
    rcases Nat.lt_or_ge y W.length with l | l
    · exact l
    · rw [hT.out x y l] at hxy; cases hxy
  have hn' : ∀ x y, bt W x y = true → x < W.length := fun x y hxy => by
    rcases Nat.lt_or_ge x W.length with l | l
    · exact l
    · rw [bt_out x y l] at hxy; cases hxy
  have hc := hn b c h2
  have hb := hn a b h1
  have ha := hn' a b h1
  have hac : a ≠ c := fun e => by
    subst e
    have hab : a ≠ b := fun e => by subst e; rw [hT.self] at h1; cases h1
    rw [hT.pair a b ha hb hab, h2] at h1
    cases h1
  rw [hT.pair a c ha hc hac]
  cases e : bt W c a
  · rfl
  · exact (h a b c ha hb hc h1 h2 e).elim
theorem inj_noTri : InjOn W (2 ^ W.length - 1) ↔ noTri W := by
  have hp := Nat.two_pow_pos W.length
  constructor
  · intro h a b c ha hb hc h1 h2 h3
    have s1 := rc_in hT ha hb (rc_cl hT ha a b (rc_self hT ha) h1)
    have s2 := rc_in hT hb hc (rc_cl hT hb b c (rc_self hT hb) h2)
    have s3 := rc_in hT hc ha (rc_cl hT hc c a (rc_self hT hc) h3)
    have e : rc W a = rc W b := Sub.antisymm (s3.trans s2) s1
    have := h a b (all_bit _ _ ha) (all_bit _ _ hb) e
    subst this
    rw [hT.self] at h1
    cases h1
  · intro h a b ha hb e
    have hl : 2 ^ W.length - 1 < 2 ^ W.length := by omega
    have han := bit_lt hl ha
    have hbn := bit_lt hl hb
    refine Classical.byContradiction fun hne => ?_
    have key : ∀ x y, x < W.length → y < W.length → x ≠ y → rc W x = rc W y → bt W x y = true := fun x y hx hy hxy he => by
      have h8 := hT.h8
      have hC : Cl W (2 ^ x ||| W.getD x 0) := fun u v hu huv => by
        rw [Nat.testBit_or, Bool.or_eq_true] at hu ⊢
        right
        rcases hu with hu | hu
        · rw [(pow_bitS x u).1 hu] at huv
          exact huv
        · exact noTri_trans hT h (a := x) (b := u) hu huv
      have hs := rc_min hT hx hC (by rw [Nat.testBit_or, (pow_bitS x x).2 rfl]; rfl) y (by rw [he]; exact rc_self hT hy)
      rw [Nat.testBit_or, Bool.or_eq_true] at hs
      rcases hs with hs | hs
      · exact absurd ((pow_bitS x y).1 hs).symm hxy
      · exact hs
    have k1 := key a b han hbn hne e
    have k2 := key b a hbn han (fun h => hne h.symm) e.symm
    rw [hT.pair a b han hbn hne, k2] at k1
    cases k1
/-- As many parts as players: no triangle. -/
theorem parts_all : (spL W (2 ^ W.length - 1)).length = W.length ↔ triRows W = [] := by
  have hp := Nat.two_pow_pos W.length
  have h := (parts_len hT _ (2 ^ W.length - 1) (Nat.le_refl _) (cl_all hT) (by omega)).2
  rw [pc_all W.length hT.h8] at h
  rw [h, inj_noTri hT, rows_noTri hT]
end
end Go.Proofs.Ytaocjjocncoahaa
