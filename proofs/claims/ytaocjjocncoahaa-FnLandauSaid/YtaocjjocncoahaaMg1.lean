/- The functions slackOf and SlackOf, walked. The two functions IsLandau, walked. Sorting: plain laws. No program. Landau's condition lives on when the least score is taken out (by computation over all sequences of at most 8). -/
import Derived.Test.YtaocjjocncoahaaPush
import Derived.Test.YtaocjjocncoahaaLib
namespace Go.Proofs.Ytaocjjocncoahaa
open Go.RowKit

/-- The sum of the first k numbers minus 0 + 1 + .. + (k - 1). -/
def slk (zs : List Int) : Nat → Int
  | 0 => 0
  | k + 1 => slk zs k + (zs.getD k 0 - (k : Int))
def slacks (zs : List Int) (k : Nat) : List Int := (List.range k).map fun i => slk zs (i + 1)
theorem slacks_length (zs : List Int) (k : Nat) : (slacks zs k).length = k := by simp [slacks]
theorem slacks_succ (zs : List Int) (k : Nat) : slacks zs (k + 1) = slacks zs k ++ [slk zs (k + 1)] := by simp [slacks, List.range_succ]
def Bd (zs : List Int) (m : Int) : Prop := ∀ i, 0 ≤ zs.getD i 0 ∧ zs.getD i 0 ≤ m
theorem bd_of_allIn (zs : List Int) (m : Int) (hm : 0 ≤ m) (h : allIn 0 m zs = true) : Bd zs m := by
  intro i
  by_cases hi : i < zs.length
  · rw [getD_lt _ _ _ hi]
    unfold allIn at h
    rw [List.all_eq_true] at h
    have := h _ (List.getElem_mem hi)
    simp at this
    omega
  · rw [List.getD, List.getElem?_eq_none (by omega)]
    simp; omega
theorem slk_bd (zs : List Int) (m : Int) (hb : Bd zs m) (k : Nat) (hk : k ≤ 8) : -8 * (k : Int) ≤ slk zs k ∧ slk zs k ≤ m * (k : Int) := by
  induction k with
  | zero => unfold slk; omega
  | succ k ih =>
    have := hb k
    have := ih (by omega)
    have e : m * ((k + 1 : Nat) : Int) = m * (k : Int) + m := by rw [Int.natCast_add, Int.mul_add]; simp
    unfold slk
    rw [e]
    omega

theorem slackOf_any (A : Option Addr) (c : Nat) (zs : List Int) (w : World) (h : Row w w.heap.size A (ints zs)) (hl : zs.length ≤ 8) (hbd : Bd zs 1000) :
    Calls Try.prog 53 #[.slice A zs.length c] w (NewInts w 3 (slacks zs zs.length)) := by
  go_enter Try.func53, Try.ntmps53
  go_wp2
  go_loopw [3, 4, 9] (fun v s i wr => ∃ (k : Nat) (B : Option Addr) (d : Nat), k ≤ zs.length ∧ i = .int .i64 k ∧ s = .int .i64 (slk zs k) ∧ v = .slice B k d ∧ Own wr w.heap.size wr.heap.size 3 B d (ints (slacks zs k)) ∧ Below w.heap.size w wr)
    (fun _ _ i _ => zs.length - (intOf i).toNat)
  case atStart => exact ⟨0, none, 0, Nat.zero_le _, rfl, rfl, rfl, Own.nil _ _ _ _, Below.refl _ _⟩
  case round =>
    obtain ⟨k, B, d, hk, rfl, rfl, rfl, ho, hb⟩ := hrel
    by_cases hlt : k < zs.length
    · obtain ⟨b, off, rfl, hbB, hc⟩ := (h.below hb (Nat.le_refl _)).int hlt
      obtain ⟨s1, s2⟩ := slk_bd zs 1000 hbd k (by omega)
      obtain ⟨b1, b2⟩ := hbd k
      rw [getD_lt _ _ _ hlt] at b1 b2
      have E : Hid (slk zs (k + 1) = slk zs k + (zs[k] - (k : Int))) := Lib.hid (by rw [slk, getD_lt _ _ _ hlt])
      generalize zs[k] = z at hc b1 b2 E
      have HO := Lib.hid ho
      have hsz := hb.size
      clear ho h
      go_wp2_with (at_builtin; refine wpList_push rfl (.tmp 19) (.tmp 21) rfl w.heap.size wr.heap.size B d k (slacks zs k) (slk zs k + (z - (k : Int))) wr.heap.size rfl rfl (slacks_length _ _).symm ?c1 ?c2 ?c3 ?c4 ?_)
      case c1 => exact HO.out.alloc (Nat.le_refl _) _
      case c2 => go_simp
      case c3 => omega
      case c4 => simp; omega
      intro A' c' w1 ho1 hg1
      rw [← E.out] at ho1
      have HO1 := Lib.hid ho1
      clear ho1
      go_wp2
      go_roundw
      case rel => exact ⟨k + 1, A', c', by omega, by go_num, by rw [E.out], rfl, by rw [slacks_succ]; exact HO1.out, below_only (hb.alloc hsz _) hg1 (Nat.le_refl _) (by simp; omega)⟩
      case measure => simp [intOf]; omega
    · obtain rfl : k = zs.length := by omega
      have HO := Lib.hid ho
      clear ho
      go_wp2
      go_ret
      exact ⟨B, d, ret_slice (slacks_length _ _).symm, HO.out, hb⟩

/-- What both functions SlackOf answer. -/
def rSlackOf (zs : List Int) : List Int := if 1 ≤ zs.length ∧ zs.length ≤ 8 ∧ allIn 0 1000 zs = true then slacks zs zs.length else []

theorem rSlackOf_len (zs : List Int) : (rSlackOf zs).length ≤ 1099511627776 := by
  unfold rSlackOf
  split
  · rw [slacks_length]; omega
  · simp

theorem newInts_nil (w w' : World) (t : TypeId) (h : Below w.heap.size w w') : NewInts w t [] (.returned (.slice none 0 0)) w' := ⟨none, 0, rfl, Own.nil _ _ _ _, h⟩

theorem iSlackOf_any (A : Option Addr) (c : Nat) (zs : List Int) (w : World) (h : Row w w.heap.size A (ints zs)) (hl : zs.length ≤ 1099511627776) :
    Calls Try.prog 19 #[.slice A zs.length c] w (NewInts w 3 (rSlackOf zs)) := by
  by_cases h1 : 1 ≤ zs.length ∧ zs.length ≤ 8
  · obtain ⟨g1, g2⟩ := h1
    cases ha : allIn 0 1000 zs with
    | true =>
      have E : rSlackOf zs = slacks zs zs.length := if_pos ⟨g1, g2, ha⟩
      rw [E]
      have hbd := Lib.hid (bd_of_allIn zs 1000 (by omega) ha)
      have HA := Lib.hid ha
      clear E ha
      go_enter Try.func19, Try.ntmps19
      go_wp2_with (first
        | (go_at_call 33; refine (within_yes _ _ _ _ (by omega) (by omega)).mono ?_; rintro e w' ⟨rfl, rfl⟩)
        | (go_at_call 52; refine (allWithin_any A c zs 0 1000 _ h hl).mono ?_; rw [HA.out]; rintro e w1 ⟨rfl, hb1⟩))
      refine (slackOf_any A c zs _ ((h.below hb1 (Nat.le_refl _)).mono hb1.size) g2 hbd.out).mono ?_
      rintro e w2 ⟨A2, c2, rfl, ho, hb2⟩
      go_wp2
      go_ret
      exact ⟨A2, c2, rfl, ho.mono hb1.size (Nat.le_refl _), hb1.trans (hb2.mono hb1.size)⟩
    | false =>
      have E : rSlackOf zs = [] := if_neg (by rw [ha]; simp)
      rw [E]
      have HA := Lib.hid ha
      clear E ha
      go_enter Try.func19, Try.ntmps19
      go_wp2_with (first
        | (go_at_call 33; refine (within_yes _ _ _ _ (by omega) (by omega)).mono ?_; rintro e w' ⟨rfl, rfl⟩)
        | (go_at_call 52; refine (allWithin_any A c zs 0 1000 _ h hl).mono ?_; rw [HA.out]; rintro e w1 ⟨rfl, hb1⟩))
      go_ret
      exact newInts_nil _ _ _ hb1
  · have E : rSlackOf zs = [] := if_neg (by omega)
    rw [E]
    have g : (zs.length : Int) < 1 ∨ 8 < (zs.length : Int) := by omega
    clear E h1
    go_enter Try.func19, Try.ntmps19
    go_wp2_with (go_at_call 33; refine (within_no _ _ _ _ g).mono ?_; rintro e w' ⟨rfl, rfl⟩)
    go_ret
    exact newInts_nil _ _ _ (Below.refl _ _)

/-! ### the reference -/
/-- The sum of the first k numbers. -/
def sumTo (zs : List Int) : Nat → Int
  | 0 => 0
  | k + 1 => sumTo zs k + zs.getD k 0
theorem tri_step (k : Nat) : (((k : Int) + 1 + 1) * ((k : Int) + 1)) / 2 = ((k : Int) + 1) * (k : Int) / 2 + ((k : Int) + 1) := by
  have e : ((k : Int) + 1 + 1) * ((k : Int) + 1) = ((k : Int) + 1) * (k : Int) + 2 * ((k : Int) + 1) := by
    rw [Int.add_mul ((k : Int) + 1) 1, Int.one_mul, Int.mul_add ((k : Int) + 1), Int.mul_one]; omega
  rw [e]; omega
theorem slk_sum (zs : List Int) (k : Nat) : slk zs (k + 1) = sumTo zs (k + 1) - ((k : Int) + 1) * (k : Int) / 2 := by
  induction k with
  | zero => simp [slk, sumTo]
  | succ k ih =>
    rw [slk, ih, show sumTo zs (k + 1 + 1) = sumTo zs (k + 1) + zs.getD (k + 1) 0 from rfl]
    have e : (((k + 1 : Nat) : Int) + 1) * ((k + 1 : Nat) : Int) / 2 = ((k : Int) + 1) * (k : Int) / 2 + ((k : Int) + 1) := by
      rw [Int.natCast_add]; exact tri_step k
    rw [e]
    omega
theorem tri_bd (k : Nat) (hk : k ≤ 8) : 0 ≤ ((k : Int) + 1) * (k : Int) ∧ ((k : Int) + 1) * (k : Int) ≤ 72 := by
  have h : k = 0 ∨ k = 1 ∨ k = 2 ∨ k = 3 ∨ k = 4 ∨ k = 5 ∨ k = 6 ∨ k = 7 ∨ k = 8 := by omega
  rcases h with rfl | rfl | rfl | rfl | rfl | rfl | rfl | rfl | rfl <;> decide
def InTo (zs : List Int) (m : Int) (k : Nat) : Prop := ∀ j, j < k → 0 ≤ zs.getD j 0 ∧ zs.getD j 0 ≤ m
theorem sumTo_bd (zs : List Int) (m : Int) (k : Nat) (h : InTo zs m k) : 0 ≤ sumTo zs k ∧ sumTo zs k ≤ m * (k : Int) := by
  induction k with
  | zero => simp [sumTo]
  | succ k ih =>
    have := h k (by omega)
    have := ih (fun j hj => h j (by omega))
    have e : m * ((k + 1 : Nat) : Int) = m * (k : Int) + m := by rw [Int.natCast_add, Int.mul_add]; simp
    rw [sumTo, e]
    omega
theorem allIn_of_to (zs : List Int) (m : Int) (h : InTo zs m zs.length) : allIn 0 m zs = true := by
  unfold allIn
  rw [List.all_eq_true]
  intro z hz
  obtain ⟨i, hi, rfl⟩ := List.mem_iff_getElem.1 hz
  have := h i hi
  rw [getD_lt _ _ _ hi] at this
  simp; omega
end Go.Proofs.Ytaocjjocncoahaa

namespace Go.Proofs.Ytaocjjocncoahaa
open Go.RowKit

/-- What the program's IsLandau asks. -/
def lanI (zs : List Int) : Bool := decide (1 ≤ zs.length) && decide (zs.length ≤ 8) && allIn 0 8 zs && sortedB zs && decide (0 ≤ minL (slacks zs zs.length) (zs.length - 1)) && (slk zs zs.length == 0)
/-- What the reference's IsLandau asks of number i. -/
def lanAt (zs : List Int) (i : Nat) : Bool := decide (0 ≤ zs.getD i 0) && decide (zs.getD i 0 ≤ (zs.length : Int) - 1) && (i == 0 || decide (zs.getD (i - 1) 0 ≤ zs.getD i 0)) && decide (0 ≤ slk zs (i + 1))
def lanS (zs : List Int) : Bool := decide (1 ≤ zs.length) && decide (zs.length ≤ 8) && (List.range zs.length).all (lanAt zs) && (slk zs zs.length == 0)

/-! ### the plain law: the two ask the same -/
theorem minL_slacks (zs : List Int) (n k : Nat) (hk : k < n) : (0 ≤ minL (slacks zs n) k) ↔ ∀ i, i ≤ k → 0 ≤ slk zs (i + 1) := by
  have g : ∀ j, j < n → (slacks zs n).getD j 0 = slk zs (j + 1) := fun j hj => by
    rw [getD_lt _ _ _ (by rw [slacks_length]; exact hj)]; simp [slacks]
  induction k with
  | zero =>
    rw [minL, g 0 hk]
    exact ⟨fun h i hi => by obtain rfl : i = 0 := by omega
                            exact h, fun h => h 0 (Nat.le_refl _)⟩
  | succ k ih =>
    have ih' := ih (by omega)
    rw [minL, g (k + 1) hk, Int.le_min]
    exact ⟨fun ⟨h1, h2⟩ i hi => by
      by_cases e : i = k + 1
      · subst e; exact h2
      · exact ih'.1 h1 i (by omega), fun h => ⟨ih'.2 fun i hi => h i (by omega), h _ (Nat.le_refl _)⟩⟩
theorem sortedB_iff (zs : List Int) : sortedB zs = true ↔ ∀ i, i + 1 < zs.length → zs.getD i 0 ≤ zs.getD (i + 1) 0 := by
  unfold sortedB
  rw [List.all_eq_true]
  exact ⟨fun h i hi => by have := h i (by rw [List.mem_range]; omega); simpa using this, fun h i hi => by rw [List.mem_range] at hi; simpa using h i (by omega)⟩
theorem lan_eq (zs : List Int) : lanI zs = lanS zs := by
  rw [Bool.eq_iff_iff]
  by_cases hn : 1 ≤ zs.length ∧ zs.length ≤ 8
  · obtain ⟨h1, h8⟩ := hn
    have hm := minL_slacks zs zs.length (zs.length - 1) (by omega)
    simp only [lanI, lanS, Bool.and_eq_true, decide_eq_true_eq, sortedB_iff, allIn_all, List.all_eq_true, List.mem_range, beq_iff_eq, hm]
    constructor
    · rintro ⟨⟨⟨⟨_, ha⟩, hs⟩, hmin⟩, hz⟩
      refine ⟨⟨⟨h1, h8⟩, ?_⟩, hz⟩
      -- the last number is at most n - 1, and so are all
      have hlast : zs.getD (zs.length - 1) 0 ≤ (zs.length : Int) - 1 := by
        by_cases e1 : zs.length = 1
        · rw [e1] at hz ⊢
          simp [slk] at hz ⊢
          omega
        · have hh := hmin (zs.length - 2) (by omega)
          have e2 : slk zs zs.length = slk zs (zs.length - 1) + (zs.getD (zs.length - 1) 0 - ((zs.length - 1 : Nat) : Int)) := by
            have : zs.length = (zs.length - 1) + 1 := by omega
            rw [this, slk, Nat.add_sub_cancel]
          rw [show zs.length - 2 + 1 = zs.length - 1 by omega] at hh
          omega
      have hup : ∀ d i, i + d + 1 = zs.length → zs.getD i 0 ≤ (zs.length : Int) - 1 := by
        intro d
        induction d with
        | zero => intro i hi; rw [show i = zs.length - 1 by omega]; exact hlast
        | succ d ih => intro i hi; exact Int.le_trans (hs i (by omega)) (ih (i + 1) (by omega))
      intro i hi
      simp only [lanAt, Bool.and_eq_true, Bool.or_eq_true, decide_eq_true_eq, beq_iff_eq]
      refine ⟨⟨⟨(ha i hi).1, hup (zs.length - 1 - i) i (by omega)⟩, ?_⟩, hmin i (by omega)⟩
      by_cases e : i = 0
      · exact .inl e
      · right
        have := hs (i - 1) (by omega)
        rwa [show i - 1 + 1 = i by omega] at this
    · rintro ⟨⟨_, h⟩, hz⟩
      simp only [lanAt, Bool.and_eq_true, Bool.or_eq_true, decide_eq_true_eq, beq_iff_eq] at h
      refine ⟨⟨⟨⟨⟨h1, h8⟩, fun i hi => ⟨(h i hi).1.1.1, ?_⟩⟩, fun i hi => ?_⟩, fun i hi => (h i (by omega)).2⟩, hz⟩
      · have := (h i hi).1.1.2; omega
      · rcases (h (i + 1) hi).1.2 with e | e
        · omega
        · exact e
  · have e1 : lanI zs = false := by unfold lanI; simp; omega
    have e2 : lanS zs = false := by unfold lanS; simp; omega
    rw [e1, e2]

theorem lanAt_iff (zs : List Int) (k : Nat) (hk : k < zs.length) : lanAt zs k = true ↔
    (0 ≤ zs[k] ∧ zs[k] ≤ (zs.length : Int) - 1) ∧ (k = 0 ∨ zs.getD (k - 1) 0 ≤ zs[k]) ∧ ((k : Int) + 1) * (k : Int) / 2 ≤ sumTo zs k + zs[k] := by
  have e := slk_sum zs k
  rw [sumTo, getD_lt _ _ _ hk] at e
  unfold lanAt
  rw [e, getD_lt _ _ _ hk]
  simp only [Bool.and_eq_true, Bool.or_eq_true, decide_eq_true_eq, beq_iff_eq]
  constructor
  · rintro ⟨⟨⟨a, b⟩, c⟩, d⟩; exact ⟨⟨a, b⟩, c, by omega⟩
  · rintro ⟨⟨a, b⟩, c, d⟩; exact ⟨⟨⟨a, b⟩, c⟩, by omega⟩
theorem lanS_no (zs : List Int) (k : Nat) (hk : k < zs.length) (h : ¬ lanAt zs k = true) : lanS zs = false := by
  unfold lanS
  have : (List.range zs.length).all (lanAt zs) = false := by
    rw [List.all_eq_false]; exact ⟨k, by rw [List.mem_range]; exact hk, h⟩
  simp [this]
def LanTo (zs : List Int) (k : Nat) : Prop := ∀ j, j < k → lanAt zs j = true
theorem lanTo_in (zs : List Int) (k : Nat) (hk : k ≤ zs.length) (h8 : zs.length ≤ 8) (h : LanTo zs k) : InTo zs 8 k := fun j hj => by
  have := (lanAt_iff zs j (by omega)).1 (h j hj)
  rw [getD_lt _ _ _ (by omega)]
  omega
theorem lanS_end (zs : List Int) (h1 : 1 ≤ zs.length) (h8 : zs.length ≤ 8) (h : LanTo zs zs.length) : lanS zs = (sumTo zs zs.length == (zs.length : Int) * ((zs.length : Int) - 1) / 2) := by
  have ha : (List.range zs.length).all (lanAt zs) = true := by
    rw [List.all_eq_true]; intro i hi; exact h i (by rwa [List.mem_range] at hi)
  unfold lanS
  rw [ha]
  obtain ⟨m, hm⟩ : ∃ m, zs.length = m + 1 := ⟨zs.length - 1, by omega⟩
  rw [hm, slk_sum]
  have e : ((m : Int) + 1) * (m : Int) / 2 = ((m + 1 : Nat) : Int) * (((m + 1 : Nat) : Int) - 1) / 2 := by
    congr 1; rw [Int.natCast_add]; congr 1; omega
  rw [← e, Bool.eq_iff_iff]
  simp
  omega
theorem tri_bd' (n : Nat) (h1 : 1 ≤ n) (h8 : n ≤ 8) : 0 ≤ (n : Int) * ((n : Int) - 1) ∧ (n : Int) * ((n : Int) - 1) ≤ 56 := by
  have h : n = 1 ∨ n = 2 ∨ n = 3 ∨ n = 4 ∨ n = 5 ∨ n = 6 ∨ n = 7 ∨ n = 8 := by omega
  rcases h with rfl | rfl | rfl | rfl | rfl | rfl | rfl | rfl <;> decide

theorem sIsLandau_walk (A : Option Addr) (c : Nat) (zs : List Int) (w : World) (h : Row w w.heap.size A (ints zs)) (hl : zs.length ≤ 1099511627776) :
    Calls Try.prog 37 #[.slice A zs.length c] w fun e w' => e = .returned (.bool (lanS zs)) ∧ Below w.heap.size w w' := by
  by_cases h1 : 1 ≤ zs.length ∧ zs.length ≤ 8
  · obtain ⟨g1, g2⟩ := h1
    obtain ⟨n1, n2⟩ := tri_bd' zs.length g1 g2
    go_enter Try.func37, Try.ntmps37
    go_wp2_with (go_at_call 29; refine (sIn_yes _ _ _ _ (by omega) (by omega)).mono ?_; rintro e w' ⟨rfl, rfl⟩)
    go_loop [4, 14] (fun s i => ∃ k : Nat, k ≤ zs.length ∧ i = .int .i64 k ∧ s = .int .i64 (sumTo zs k) ∧ Hid (LanTo zs k)) (fun _ i => zs.length - (intOf i).toNat)
    case atStart => exact ⟨0, Nat.zero_le _, rfl, rfl, Lib.hid (fun j hj => by omega)⟩
    case round =>
      obtain ⟨k, hk, rfl, rfl, HT⟩ := hrel
      obtain ⟨s1, s2⟩ := sumTo_bd zs 8 k (lanTo_in zs k hk g2 HT.out)
      by_cases hlt : k < zs.length
      · obtain ⟨b, off, rfl, hbB, hc⟩ := h.int hlt
        obtain ⟨p1, p2⟩ := tri_bd k (by omega)
        have HI := Lib.hid (lanAt_iff zs k hlt)
        have E1 : Hid (sumTo zs (k + 1) = sumTo zs k + zs[k]) := Lib.hid (by rw [sumTo, getD_lt _ _ _ hlt])
        have NO := Lib.hid (lanS_no zs k hlt)
        by_cases hz : 0 ≤ zs[k] ∧ zs[k] ≤ (zs.length : Int) - 1
        · obtain ⟨z1, z2⟩ := hz
          have HT2 : Hid (lanAt zs k = true → LanTo zs (k + 1)) := Lib.hid (fun y j hj => by
            by_cases e : j = k
            · subst e; exact y
            · exact HT.out j (by omega))
          rcases Nat.eq_zero_or_pos k with rfl | hk0
          · have hc0 : w.cell? ⟨b, off, none⟩ = some (.int .i64 zs[0]) := hc
            have HY : Hid (LanTo zs (0 + 1)) := Lib.hid (HT2.out (HI.out.2 ⟨⟨z1, z2⟩, .inl rfl, by simp [sumTo]; omega⟩))
            clear h hc p1 p2 NO HI HT2
            have s0 : Hid (sumTo zs 0 = 0) := Lib.hid rfl
            generalize zs[0] = z at *
            generalize sumTo zs 0 = s at *
            have s3 : 0 ≤ s + z := by omega
            go_wp2_with (go_at_call 29; refine (sIn_yes _ _ _ _ z1 z2).mono ?_; rintro e w' ⟨rfl, rfl⟩)
            go_round
            case rel => exact ⟨1, by omega, rfl, by rw [← E1.out], HY⟩
            case measure => simp [intOf]; omega
          · obtain ⟨m, rfl⟩ : ∃ m, k = m + 1 := ⟨k - 1, by omega⟩
            obtain ⟨b', off', e, _, hc'⟩ := h.int (k := m) (by omega)
            simp only [Option.some.injEq, Addr.mk.injEq, and_true] at e
            obtain ⟨rfl, rfl⟩ := e
            have q1 : 0 ≤ ((m : Int) + 1 + 1) * ((m : Int) + 1) := p1
            have q2 : ((m : Int) + 1 + 1) * ((m : Int) + 1) ≤ 72 := p2
            have HJ : Hid (lanAt zs (m + 1) = true ↔ (0 ≤ zs[m + 1] ∧ zs[m + 1] ≤ (zs.length : Int) - 1) ∧ zs[m] ≤ zs[m + 1] ∧ ((m : Int) + 1 + 1) * ((m : Int) + 1) / 2 ≤ sumTo zs (m + 1) + zs[m + 1]) := Lib.hid (by
              rw [HI.out, Nat.add_sub_cancel, getD_lt _ _ _ (show m < zs.length by omega)]
              exact ⟨fun ⟨x, y, t⟩ => ⟨x, y.resolve_left (by omega), t⟩, fun ⟨x, y, t⟩ => ⟨x, .inr y, t⟩⟩)
            clear p1 p2 HI h hk0
            generalize zs[m + 1] = z at *
            generalize zs[m] = y at *
            generalize hprod : ((m : Int) + 1 + 1) * ((m : Int) + 1) = pr at *
            have HP := Lib.hid hprod
            clear hprod
            have t1 : ((m : Int) + 1).toNat = m + 1 := by omega
            have t2 : ((m : Int) + 1 - 1).toNat = m := by omega
            have r1 : 0 ≤ ((m : Int) + 1 + 1) * ((m : Int) + 1) := by rw [HP.out]; exact q1
            have r2 : ((m : Int) + 1 + 1) * ((m : Int) + 1) ≤ 72 := by rw [HP.out]; exact q2
            by_cases hp : z < y
            · have N := Lib.hid (NO.out (fun h => by have := (HJ.out.1 h).2.1; omega))
              go_wp2_with (go_at_call 29; refine (sIn_yes _ _ _ _ z1 z2).mono ?_; rintro e w' ⟨rfl, rfl⟩)
              go_ret
              exact ⟨ret_bool N.out.symm, Below.refl _ _⟩
            · by_cases hs : sumTo zs (m + 1) + z < ((m : Int) + 1 + 1) * ((m : Int) + 1) / 2
              · have N := Lib.hid (NO.out (fun h => by have := (HJ.out.1 h).2.2; rw [HP.out] at hs; omega))
                go_wp2_with (go_at_call 29; refine (sIn_yes _ _ _ _ z1 z2).mono ?_; rintro e w' ⟨rfl, rfl⟩)
                go_ret
                exact ⟨ret_bool N.out.symm, Below.refl _ _⟩
              · have Y := Lib.hid (HT2.out (HJ.out.2 ⟨⟨z1, z2⟩, by omega, by rw [HP.out] at hs; omega⟩))
                go_wp2_with (go_at_call 29; refine (sIn_yes _ _ _ _ z1 z2).mono ?_; rintro e w' ⟨rfl, rfl⟩)
                go_round
                case rel => exact ⟨m + 1 + 1, by omega, by go_num, by rw [← E1.out], Y.out⟩
                case measure => simp [intOf]; omega
        · have hz' : zs[k] < 0 ∨ (zs.length : Int) - 1 < zs[k] := by omega
          have N := Lib.hid (NO.out (fun y => hz (HI.out.1 y).1))
          clear hz h
          generalize zs[k] = z at *
          go_wp2_with (go_at_call 29; refine (sIn_no _ _ _ _ hz').mono ?_; rintro e w' ⟨rfl, rfl⟩)
          go_ret
          exact ⟨ret_bool N.out.symm, Below.refl _ _⟩
      · obtain rfl : k = zs.length := by omega
        have E := Lib.hid (lanS_end zs g1 g2 HT.out)
        go_wp2
        go_ret
        exact ⟨ret_bool E.out.symm, Below.refl _ _⟩
  · have E : lanS zs = false := by unfold lanS; simp; omega
    rw [E]
    have g : (zs.length : Int) < 1 ∨ 8 < (zs.length : Int) := by omega
    clear E h1
    go_enter Try.func37, Try.ntmps37
    go_wp2_with (go_at_call 29; refine (sIn_no _ _ _ _ g).mono ?_; rintro e w' ⟨rfl, rfl⟩)
    go_ret
    exact ⟨rfl, Below.refl _ _⟩

theorem iIsLandau_walk (A : Option Addr) (c : Nat) (zs : List Int) (w : World) (h : Row w w.heap.size A (ints zs)) (hl : zs.length ≤ 1099511627776) :
    Calls Try.prog 20 #[.slice A zs.length c] w fun e w' => e = .returned (.bool (lanI zs)) ∧ Below w.heap.size w w' := by
  by_cases h1 : 1 ≤ zs.length ∧ zs.length ≤ 8
  · obtain ⟨g1, g2⟩ := h1
    cases ha : allIn 0 8 zs with
    | false =>
      have E : Hid (lanI zs = false) := Lib.hid (by unfold lanI; simp [ha])
      have HA := Lib.hid ha
      clear ha
      go_enter Try.func20, Try.ntmps20
      go_wp2_with (first
        | (go_at_call 33; refine (within_yes _ _ _ _ (by omega) (by omega)).mono ?_; rintro e w' ⟨rfl, rfl⟩)
        | (go_at_call 52; refine (allWithin_any A c zs 0 8 _ h hl).mono ?_; rw [HA.out]; rintro e w1 ⟨rfl, hb1⟩))
      go_ret
      exact ⟨ret_bool E.out.symm, hb1⟩
    | true =>
      have hbd := Lib.hid (bd_of_allIn zs 8 (by omega) ha)
      have hbd2 : Hid (Bd zs 1000) := Lib.hid (fun i => by have := hbd.out i; omega)
      have HA := Lib.hid ha
      cases hs : sortedB zs with
      | false =>
        have E : Hid (lanI zs = false) := Lib.hid (by unfold lanI; simp [hs])
        have HS := Lib.hid hs
        clear ha hs
        go_enter Try.func20, Try.ntmps20
        go_wp2_with (first
          | (go_at_call 33; refine (within_yes _ _ _ _ (by omega) (by omega)).mono ?_; rintro e w' ⟨rfl, rfl⟩)
          | (go_at_call 52; refine (allWithin_any A c zs 0 8 _ h hl).mono ?_; rw [HA.out]; rintro e w1 ⟨rfl, hb1⟩)
          | (go_at_call 54; refine (isSorted_any A c zs _ (h.rowAt hb1 (Nat.le_refl _)) hl).mono ?_; rw [HS.out]; rintro e w2 ⟨rfl, hb2⟩))
        go_ret
        exact ⟨ret_bool E.out.symm, below_trans hb1 hb2⟩
      | true =>
        have HS := Lib.hid hs
        have hlen : (slacks zs zs.length).length = zs.length := slacks_length _ _
        have HL := Lib.hid hlen
        have E : Hid (lanI zs = (decide (0 ≤ minL (slacks zs zs.length) (zs.length - 1)) && (slk zs zs.length == 0))) := Lib.hid (by unfold lanI; simp [ha, hs, g1, g2])
        clear ha hs hlen
        go_enter Try.func20, Try.ntmps20
        go_wp2_with (first
          | (go_at_call 33; refine (within_yes _ _ _ _ (by omega) (by omega)).mono ?_; rintro e w' ⟨rfl, rfl⟩)
          | (go_at_call 52; refine (allWithin_any A c zs 0 8 _ h hl).mono ?_; rw [HA.out]; rintro e w1 ⟨rfl, hb1⟩)
          | (go_at_call 54; refine (isSorted_any A c zs _ (h.rowAt hb1 (Nat.le_refl _)) hl).mono ?_; rw [HS.out]; rintro e w2 ⟨rfl, hb2⟩))
        have hb12 := below_trans hb1 hb2
        refine (slackOf_any A c zs _ (h.rowAt hb12 (Nat.le_refl _)) g2 hbd2.out).mono ?_
        rintro e w3 ⟨A3, c3, rfl, o3, hb3⟩
        have hb13 := below_trans hb12 hb3
        rw [HL.out]
        have hr3 : Row w3 w3.heap.size A3 (ints (slacks zs zs.length)) := o3.row
        obtain ⟨b, off, rfl, _, hc⟩ := hr3.int (k := zs.length - 1) (by rw [HL.out]; omega)
        have e1 : (slacks zs zs.length)[zs.length - 1]'(by rw [HL.out]; omega) = slk zs zs.length := by
          simp only [slacks, List.getElem_map, List.getElem_range]
          rw [Nat.sub_add_cancel g1]
        rw [e1] at hc
        have t1 : ((zs.length : Int) - 1).toNat = zs.length - 1 := by omega
        by_cases hm : 0 ≤ minL (slacks zs zs.length) (zs.length - 1)
        · go_wp2_with (go_at_call 55; have hmn := min_any (some ⟨b, off, none⟩) c3 (slacks zs zs.length) w3 hr3 (by rw [HL.out]; omega) (by rw [HL.out]; omega); rw [HL.out] at hmn; refine hmn.mono ?_; rintro e w4 ⟨rfl, rfl⟩)
          go_ret
          exact ⟨ret_bool (by rw [E.out]; simp [hm]), hb13⟩
        · go_wp2_with (go_at_call 55; have hmn := min_any (some ⟨b, off, none⟩) c3 (slacks zs zs.length) w3 hr3 (by rw [HL.out]; omega) (by rw [HL.out]; omega); rw [HL.out] at hmn; refine hmn.mono ?_; rintro e w4 ⟨rfl, rfl⟩)
          go_ret
          exact ⟨ret_bool (by rw [E.out]; simp; intro hh; omega), hb13⟩
  · have E : lanI zs = false := by unfold lanI; simp; omega
    rw [E]
    have g : (zs.length : Int) < 1 ∨ 8 < (zs.length : Int) := by omega
    clear E h1
    go_enter Try.func20, Try.ntmps20
    go_wp2_with (go_at_call 33; refine (within_no _ _ _ _ g).mono ?_; rintro e w' ⟨rfl, rfl⟩)
    go_ret
    exact ⟨rfl, Below.refl _ _⟩

/-- What both answer. -/
def rIsLandau (zs : List Int) : Bool := lanS zs
theorem iIsLandau_any (A : Option Addr) (c : Nat) (zs : List Int) (w : World) (h : Row w w.heap.size A (ints zs)) (hl : zs.length ≤ 1099511627776) :
    Calls Try.prog 20 #[.slice A zs.length c] w fun e w' => e = .returned (.bool (rIsLandau zs)) ∧ Below w.heap.size w w' := by
  unfold rIsLandau; rw [← lan_eq]; exact iIsLandau_walk A c zs w h hl
theorem sIsLandau_any (A : Option Addr) (c : Nat) (zs : List Int) (w : World) (h : Row w w.heap.size A (ints zs)) (hl : zs.length ≤ 1099511627776) :
    Calls Try.prog 37 #[.slice A zs.length c] w fun e w' => e = .returned (.bool (rIsLandau zs)) ∧ Below w.heap.size w w' := sIsLandau_walk A c zs w h hl
end Go.Proofs.Ytaocjjocncoahaa

namespace Go.Proofs.Ytaocjjocncoahaa
open Go.RowKit

/-- The place of x in a sorted list, sought from k down. -/
def posD (out : List Int) (x : Int) : Nat → Nat
  | 0 => 0
  | k + 1 => if x < out.getD k 0 then posD out x k else k + 1
theorem posD_le (out : List Int) (x : Int) (k : Nat) : posD out x k ≤ k := by
  induction k with
  | zero => exact Nat.le_refl _
  | succ k ih => unfold posD; split <;> omega
def posL (out : List Int) (x : Int) : Nat := posD out x out.length
theorem posL_le (out : List Int) (x : Int) : posL out x ≤ out.length := posD_le _ _ _
theorem posD_hi (out : List Int) (x : Int) (k : Nat) : ∀ i, posD out x k ≤ i → i < k → x < out.getD i 0 := by
  induction k with
  | zero => intro i _ h; omega
  | succ k ih =>
    intro i h1 h2
    unfold posD at h1
    split at h1
    · by_cases e : i = k
      · subst e; assumption
      · exact ih i h1 (by omega)
    · omega
theorem posD_lo (out : List Int) (x : Int) (k : Nat) (h : 0 < posD out x k) : out.getD (posD out x k - 1) 0 ≤ x := by
  induction k with
  | zero => simp [posD] at h
  | succ k ih =>
    unfold posD at h ⊢
    split
    · rename_i hx
      rw [if_pos hx] at h
      exact ih h
    · rename_i hx
      simpa using hx
/-- x put into a sorted list behind all that are not greater. -/
def insL (x : Int) (out : List Int) : List Int := out.take (posL out x) ++ x :: out.drop (posL out x)
theorem insL_length (x : Int) (out : List Int) : (insL x out).length = out.length + 1 := by
  have := posL_le out x
  simp [insL]; omega
theorem insL_perm (x : Int) (out : List Int) : (insL x out).Perm (x :: out) := by
  have h := List.perm_middle (a := x) (l₁ := out.take (posL out x)) (l₂ := out.drop (posL out x))
  rw [List.take_append_drop] at h
  exact h
def Asc (l : List Int) : Prop := l.Pairwise (· ≤ ·)
theorem asc_getD {l : List Int} (h : Asc l) {i j : Nat} (hij : i ≤ j) (hj : j < l.length) : l.getD i 0 ≤ l.getD j 0 := by
  by_cases e : i = j
  · subst e; exact Int.le_refl _
  · rw [getD_lt _ _ _ hj, getD_lt _ _ _ (show i < l.length by omega)]
    exact (List.pairwise_iff_getElem.1 h) i j (by omega) hj (by omega)
theorem insL_asc (x : Int) (out : List Int) (h : Asc out) : Asc (insL x out) := by
  unfold insL Asc
  rw [List.pairwise_append, List.pairwise_cons]
  have h1 : ∀ a ∈ out.take (posL out x), a ≤ x := by
    intro a ha
    obtain ⟨i, hi, e⟩ := List.mem_iff_getElem.1 ha
    have hlt : i < posL out x ∧ i < out.length := by
      rw [List.length_take] at hi
      omega
    have hp := posD_lo out x out.length (show 0 < posL out x by omega)
    have hle := posL_le out x
    have := asc_getD h (i := i) (j := posL out x - 1) (by omega) (by omega)
    rw [List.getElem_take] at e
    rw [getD_lt _ _ _ hlt.2, e] at this
    exact Int.le_trans this hp
  have h2 : ∀ a ∈ out.drop (posL out x), x ≤ a := by
    intro a ha
    obtain ⟨i, hi, e⟩ := List.mem_iff_getElem.1 ha
    rw [List.length_drop] at hi
    have := posD_hi out x out.length (posL out x + i) (Nat.le_add_right _ _) (by omega)
    rw [List.getElem_drop] at e
    rw [getD_lt _ _ _ (by omega), e] at this
    omega
  refine ⟨List.Pairwise.sublist (List.take_sublist _ _) h, ⟨h2, List.Pairwise.sublist (List.drop_sublist _ _) h⟩, ?_⟩
  intro a ha b hb
  rcases List.mem_cons.1 hb with e | hb
  · subst e; exact h1 a ha
  · exact Int.le_trans (h1 a ha) (h2 b hb)
/-- The first k numbers, sorted. -/
def sortK (zs : List Int) : Nat → List Int
  | 0 => []
  | k + 1 => insL (zs.getD k 0) (sortK zs k)
def sortL (zs : List Int) : List Int := sortK zs zs.length
theorem sortK_length (zs : List Int) (k : Nat) : (sortK zs k).length = k := by
  induction k with
  | zero => rfl
  | succ k ih => rw [sortK, insL_length, ih]
theorem sortL_length (zs : List Int) : (sortL zs).length = zs.length := sortK_length _ _
theorem sortK_asc (zs : List Int) (k : Nat) : Asc (sortK zs k) := by
  induction k with
  | zero => exact List.Pairwise.nil
  | succ k ih => exact insL_asc _ _ ih
theorem sortK_perm (zs : List Int) (k : Nat) (h : k ≤ zs.length) : (sortK zs k).Perm (zs.take k) := by
  induction k with
  | zero => simp [sortK]
  | succ k ih =>
    rw [sortK, List.take_succ_eq_append_getElem (by omega), getD_lt _ _ _ (by omega)]
    refine (insL_perm _ _).trans ?_
    refine ((ih (by omega)).cons _).trans ?_
    exact List.perm_append_comm (l₁ := [zs[k]]) (l₂ := zs.take k)
theorem sortL_asc (zs : List Int) : Asc (sortL zs) := sortK_asc _ _
theorem sortL_perm (zs : List Int) : (sortL zs).Perm zs := by
  have := sortK_perm zs zs.length (Nat.le_refl _)
  rwa [List.take_length] at this
theorem asc_unique : ∀ (a b : List Int), Asc a → Asc b → a.Perm b → a = b
  | [], b, _, _, hp => hp.nil_eq
  | x :: a, b, ha, hb, hp => by
    cases b with
    | nil => exact absurd hp.symm.nil_eq (by simp)
    | cons y b =>
      have h1 := List.pairwise_cons.1 ha
      have h2 := List.pairwise_cons.1 hb
      have hx : x ≤ y := by
        rcases List.mem_cons.1 (hp.mem_iff.2 (List.mem_cons_self (a := y) (l := b))) with e | hm
        · omega
        · exact h1.1 y hm
      have hy : y ≤ x := by
        rcases List.mem_cons.1 (hp.mem_iff.1 (List.mem_cons_self (a := x) (l := a))) with e | hm
        · omega
        · exact h2.1 x hm
      have e : x = y := by omega
      subst e
      rw [asc_unique a b h1.2 h2.2 (List.Perm.cons_inv hp)]
theorem sorted_is {a zs : List Int} (h : Asc a) (hp : a.Perm zs) : a = sortL zs := asc_unique _ _ h (sortL_asc zs) (hp.trans (sortL_perm zs).symm)
/-- The greatest of the first k + 1 numbers. -/
def maxL (zs : List Int) : Nat → Int
  | 0 => zs.getD 0 0
  | k + 1 => max (maxL zs k) (zs.getD (k + 1) 0)
theorem maxL_ge (zs : List Int) (k : Nat) : ∀ i, i ≤ k → zs.getD i 0 ≤ maxL zs k := by
  induction k with
  | zero => intro i hi; obtain rfl : i = 0 := (by omega); exact Int.le_refl _
  | succ k ih =>
    intro i hi
    unfold maxL
    by_cases e : i = k + 1
    · subst e; omega
    · have := ih i (by omega); omega
theorem maxL_in (zs : List Int) (k : Nat) : ∃ i, i ≤ k ∧ maxL zs k = zs.getD i 0 := by
  induction k with
  | zero => exact ⟨0, Nat.le_refl _, rfl⟩
  | succ k ih =>
    obtain ⟨i, hi, e⟩ := ih
    unfold maxL
    rcases Int.le_total (maxL zs k) (zs.getD (k + 1) 0) with h | h
    · exact ⟨k + 1, Nat.le_refl _, by omega⟩
    · exact ⟨i, by omega, by omega⟩
theorem minL_le (zs : List Int) (k : Nat) : ∀ i, i ≤ k → minL zs k ≤ zs.getD i 0 := by
  induction k with
  | zero => intro i hi; obtain rfl : i = 0 := (by omega); exact Int.le_refl _
  | succ k ih =>
    intro i hi
    unfold minL
    by_cases e : i = k + 1
    · subst e; omega
    · have := ih i (by omega); omega
theorem minL_in (zs : List Int) (k : Nat) : ∃ i, i ≤ k ∧ minL zs k = zs.getD i 0 := by
  induction k with
  | zero => exact ⟨0, Nat.le_refl _, rfl⟩
  | succ k ih =>
    obtain ⟨i, hi, e⟩ := ih
    unfold minL
    rcases Int.le_total (zs.getD (k + 1) 0) (minL zs k) with h | h
    · exact ⟨k + 1, Nat.le_refl _, by omega⟩
    · exact ⟨i, by omega, by omega⟩
theorem getD_mem {zs : List Int} {i : Nat} (h : i < zs.length) : zs.getD i 0 ∈ zs := by rw [getD_lt _ _ _ h]; exact List.getElem_mem _
theorem mem_getD {zs : List Int} {x : Int} (h : x ∈ zs) : ∃ i, i < zs.length ∧ zs.getD i 0 = x := by
  obtain ⟨i, hi, e⟩ := List.mem_iff_getElem.1 h
  exact ⟨i, hi, by rw [getD_lt _ _ _ hi]; exact e⟩
theorem max_last (zs : List Int) (h0 : 0 < zs.length) : maxL zs (zs.length - 1) = (sortL zs).getD (zs.length - 1) 0 := by
  have hl := sortL_length zs
  obtain ⟨i, hi, e⟩ := maxL_in zs (zs.length - 1)
  have h1 : maxL zs (zs.length - 1) ∈ sortL zs := (sortL_perm zs).mem_iff.2 (by rw [e]; exact getD_mem (by omega))
  obtain ⟨j, hj, ej⟩ := mem_getD h1
  have h2 := asc_getD (sortL_asc zs) (i := j) (j := zs.length - 1) (by omega) (by omega)
  have h3 : (sortL zs).getD (zs.length - 1) 0 ∈ zs := (sortL_perm zs).mem_iff.1 (getD_mem (by omega))
  obtain ⟨k, hk, ek⟩ := mem_getD h3
  have h4 := maxL_ge zs (zs.length - 1) k (by omega)
  omega
theorem min_first (zs : List Int) (h0 : 0 < zs.length) : minL zs (zs.length - 1) = (sortL zs).getD 0 0 := by
  have hl := sortL_length zs
  obtain ⟨i, hi, e⟩ := minL_in zs (zs.length - 1)
  have h1 : minL zs (zs.length - 1) ∈ sortL zs := (sortL_perm zs).mem_iff.2 (by rw [e]; exact getD_mem (by omega))
  obtain ⟨j, hj, ej⟩ := mem_getD h1
  have h2 := asc_getD (sortL_asc zs) (i := 0) (j := j) (by omega) (by omega)
  have h3 : (sortL zs).getD 0 0 ∈ zs := (sortL_perm zs).mem_iff.1 (getD_mem (by omega))
  obtain ⟨k, hk, ek⟩ := mem_getD h3
  have h4 := minL_le zs (zs.length - 1) k (by omega)
  omega
end Go.Proofs.Ytaocjjocncoahaa

namespace Go.Proofs.Ytaocjjocncoahaa
open Go.RowKit

/-! ### Landau's condition lives on -/
def ascs : Nat → Nat → List (List Int)
  | 0, _ => [[]]
  | m + 1, lo => ((List.range 8).filter fun x => decide (lo ≤ x)).flatMap fun (x : Nat) => (ascs m x).map fun q => (x : Int) :: q
def nxtQ (a : Int) (t : List Int) : List Int := t.take a.toNat ++ (t.drop a.toNat).map (· - 1)
def lanNext (q : List Int) : Bool := !(slk q q.length == 0) || !lanS q || match q with
  | [] => true
  | a :: t => decide (0 ≤ a) && decide (a.toNat ≤ t.length) && (t.isEmpty || lanS (sortL (nxtQ a t)))
theorem lan_all : ((List.range 9).all fun m => (ascs m 0).all lanNext) = true := by decide +kernel
theorem ascs_mem : ∀ (q : List Int) (lo : Nat), Asc q → (∀ z ∈ q, (lo : Int) ≤ z ∧ z ≤ 7) → q ∈ ascs q.length lo
  | [], _, _, _ => by simp [ascs]
  | z :: q, lo, ha, hb => by
    have h1 := hb z (by simp)
    have h2 := List.pairwise_cons.1 ha
    obtain ⟨x, rfl⟩ := Int.eq_ofNat_of_zero_le (show 0 ≤ z by omega)
    have ih := ascs_mem q x h2.2 (fun y hy => ⟨h2.1 y hy, (hb y (by simp [hy])).2⟩)
    rw [List.length_cons, ascs, List.mem_flatMap]
    exact ⟨x, by simp; omega, List.mem_map.2 ⟨q, ih, rfl⟩⟩
theorem lan_next (a : Int) (t : List Int) (h : lanS (a :: t) = true) : 0 ≤ a ∧ a.toNat ≤ t.length ∧ (t = [] ∨ lanS (sortL (nxtQ a t)) = true) := by
  have h0 := h
  unfold lanS at h0
  simp only [Bool.and_eq_true, decide_eq_true_eq] at h0
  obtain ⟨⟨⟨h1, h8⟩, hall⟩, hslk⟩ := h0
  have hat := fun i (hi : i < (a :: t).length) => (lanAt_iff (a :: t) i hi).1 (List.all_eq_true.1 hall i (List.mem_range.2 hi))
  have hasc : Asc (a :: t) := by
    have hs : ∀ d i, i + d < (a :: t).length → (a :: t).getD i 0 ≤ (a :: t).getD (i + d) 0 := by
      intro d
      induction d with
      | zero => intro i _; exact Int.le_refl _
      | succ d ih =>
        intro i hi
        have e1 := ih i (by omega)
        have e2 := (hat (i + d + 1) (by omega)).2.1
        rcases e2 with e2 | e2
        · omega
        · rw [Nat.add_sub_cancel] at e2
          rw [show i + (d + 1) = i + d + 1 by omega, getD_lt _ _ _ (show i + d + 1 < _ by omega)]
          omega
    rw [Asc, List.pairwise_iff_getElem]
    intro i j hi hj hij
    have := hs (j - i) i (by omega)
    rw [show i + (j - i) = j by omega, getD_lt _ _ _ hi, getD_lt _ _ _ hj] at this
    exact this
  have hm := ascs_mem (a :: t) 0 hasc (fun z hz => by
    obtain ⟨i, hi, rfl⟩ := List.mem_iff_getElem.1 hz
    have := (hat i hi).1
    constructor <;> omega)
  have hc := List.all_eq_true.1 (List.all_eq_true.1 lan_all (a :: t).length (List.mem_range.2 (by omega))) _ hm
  unfold lanNext at hc
  rw [h, hslk] at hc
  simp only [Bool.not_true, Bool.false_or, Bool.and_eq_true, decide_eq_true_eq, Bool.or_eq_true, List.isEmpty_iff] at hc
  exact ⟨hc.1.1, hc.1.2, hc.2⟩
end Go.Proofs.Ytaocjjocncoahaa
