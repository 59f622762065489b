/- The functions slackOf and SlackOf, walked. -/
import Derived.Test.YtaocjjocncoahaaPush
import Derived.Test.YtaocjjocncoahaaLib
namespace Go.Proofs.Ytaocjjocncoahaa
open Go.RowKit

/-- The sum of the first k numbers minus 0 + 1 + .. + (k - 1). -/
def slk (zs : List Int) : Nat → Int
  | 0 => 0
  | k + 1 => slk zs k + (zs.getD k 0 - (k : Int))
def slacks (zs : List Int) (k : Nat) : List Int := (List.range k).map fun i => slk zs (i + 1)
theorem slacks_length (zs : List Int) (k : Nat) : (slacks zs k).length = k := by simp [slacks]
theorem slacks_succ (zs : List Int) (k : Nat) : slacks zs (k + 1) = slacks zs k ++ [slk zs (k + 1)] := by simp [slacks, List.range_succ]
def Bd (zs : List Int) (m : Int) : Prop := ∀ i, 0 ≤ zs.getD i 0 ∧ zs.getD i 0 ≤ m
theorem bd_of_allIn (zs : List Int) (m : Int) (hm : 0 ≤ m) (h : allIn 0 m zs = true) : Bd zs m := by
  intro i
  by_cases hi : i < zs.length
  · rw [getD_lt _ _ _ hi]
    unfold allIn at h
    rw [List.all_eq_true] at h
    have := h _ (List.getElem_mem hi)
    simp at this
    omega
  · rw [List.getD, List.getElem?_eq_none (by omega)]
    simp; omega
theorem slk_bd (zs : List Int) (m : Int) (hb : Bd zs m) (k : Nat) (hk : k ≤ 8) : -8 * (k : Int) ≤ slk zs k ∧ slk zs k ≤ m * (k : Int) := by
  induction k with
  | zero => unfold slk; omega
  | succ k ih =>
    have := hb k
    have := ih (by omega)
    have e : m * ((k + 1 : Nat) : Int) = m * (k : Int) + m := by rw [Int.natCast_add, Int.mul_add]; simp
    unfold slk
    rw [e]
    omega

theorem slackOf_any (A : Option Addr) (c : Nat) (zs : List Int) (w : World) (h : Row w w.heap.size A (ints zs)) (hl : zs.length ≤ 8) (hbd : Bd zs 1000) :
    Calls Try.prog 53 #[.slice A zs.length c] w (NewInts w 3 (slacks zs zs.length)) := by
  go_enter Try.func53, Try.ntmps53
  go_wp2
  go_loopw [3, 4, 9] (fun v s i wr => ∃ (k : Nat) (B : Option Addr) (d : Nat), k ≤ zs.length ∧ i = .int .i64 k ∧ s = .int .i64 (slk zs k) ∧ v = .slice B k d ∧ Own wr w.heap.size wr.heap.size 3 B d (ints (slacks zs k)) ∧ Below w.heap.size w wr)
    (fun _ _ i _ => zs.length - (intOf i).toNat)
  case atStart => exact ⟨0, none, 0, Nat.zero_le _, rfl, rfl, rfl, Own.nil _ _ _ _, Below.refl _ _⟩
  case round =>
    obtain ⟨k, B, d, hk, rfl, rfl, rfl, ho, hb⟩ := hrel
    by_cases hlt : k < zs.length
    · obtain ⟨b, off, rfl, hbB, hc⟩ := (h.below hb (Nat.le_refl _)).int hlt
      obtain ⟨s1, s2⟩ := slk_bd zs 1000 hbd k (by omega)
      obtain ⟨b1, b2⟩ := hbd k
      rw [getD_lt _ _ _ hlt] at b1 b2
      have E : Hid (slk zs (k + 1) = slk zs k + (zs[k] - (k : Int))) := Lib.hid (by rw [slk, getD_lt _ _ _ hlt])
      generalize zs[k] = z at hc b1 b2 E
      have HO := Lib.hid ho
      have hsz := hb.size
      clear ho h
      go_wp2_with (at_builtin; refine wpList_push rfl (.tmp 19) (.tmp 21) rfl w.heap.size wr.heap.size B d k (slacks zs k) (slk zs k + (z - (k : Int))) wr.heap.size rfl rfl (slacks_length _ _).symm ?c1 ?c2 ?c3 ?c4 ?_)
      case c1 => exact HO.out.alloc (Nat.le_refl _) _
      case c2 => go_simp
      case c3 => omega
      case c4 => simp; omega
      intro A' c' w1 ho1 hg1
      rw [← E.out] at ho1
      have HO1 := Lib.hid ho1
      clear ho1
      go_wp2
      go_roundw
      case rel => exact ⟨k + 1, A', c', by omega, by go_num, by rw [E.out], rfl, by rw [slacks_succ]; exact HO1.out, below_only (hb.alloc hsz _) hg1 (Nat.le_refl _) (by simp; omega)⟩
      case measure => simp [intOf]; omega
    · obtain rfl : k = zs.length := by omega
      have HO := Lib.hid ho
      clear ho
      go_wp2
      go_ret
      exact ⟨B, d, ret_slice (slacks_length _ _).symm, HO.out, hb⟩

/-- What both functions SlackOf answer. -/
def rSlackOf (zs : List Int) : List Int := if 1 ≤ zs.length ∧ zs.length ≤ 8 ∧ allIn 0 1000 zs = true then slacks zs zs.length else []

theorem rSlackOf_len (zs : List Int) : (rSlackOf zs).length ≤ 1099511627776 := by
  unfold rSlackOf
  split
  · rw [slacks_length]; omega
  · simp

theorem newInts_nil (w w' : World) (t : TypeId) (h : Below w.heap.size w w') : NewInts w t [] (.returned (.slice none 0 0)) w' := ⟨none, 0, rfl, Own.nil _ _ _ _, h⟩

theorem iSlackOf_any (A : Option Addr) (c : Nat) (zs : List Int) (w : World) (h : Row w w.heap.size A (ints zs)) (hl : zs.length ≤ 1099511627776) :
    Calls Try.prog 19 #[.slice A zs.length c] w (NewInts w 3 (rSlackOf zs)) := by
  by_cases h1 : 1 ≤ zs.length ∧ zs.length ≤ 8
  · obtain ⟨g1, g2⟩ := h1
    cases ha : allIn 0 1000 zs with
    | true =>
      have E : rSlackOf zs = slacks zs zs.length := if_pos ⟨g1, g2, ha⟩
      rw [E]
      have hbd := Lib.hid (bd_of_allIn zs 1000 (by omega) ha)
      have HA := Lib.hid ha
      clear E ha
      go_enter Try.func19, Try.ntmps19
      go_wp2_with (first
        | (go_at_call 33; refine (within_yes _ _ _ _ (by omega) (by omega)).mono ?_; rintro e w' ⟨rfl, rfl⟩)
        | (go_at_call 52; refine (allWithin_any A c zs 0 1000 _ h hl).mono ?_; rw [HA.out]; rintro e w1 ⟨rfl, hb1⟩))
      refine (slackOf_any A c zs _ ((h.below hb1 (Nat.le_refl _)).mono hb1.size) g2 hbd.out).mono ?_
      rintro e w2 ⟨A2, c2, rfl, ho, hb2⟩
      go_wp2
      go_ret
      exact ⟨A2, c2, rfl, ho.mono hb1.size (Nat.le_refl _), hb1.trans (hb2.mono hb1.size)⟩
    | false =>
      have E : rSlackOf zs = [] := if_neg (by rw [ha]; simp)
      rw [E]
      have HA := Lib.hid ha
      clear E ha
      go_enter Try.func19, Try.ntmps19
      go_wp2_with (first
        | (go_at_call 33; refine (within_yes _ _ _ _ (by omega) (by omega)).mono ?_; rintro e w' ⟨rfl, rfl⟩)
        | (go_at_call 52; refine (allWithin_any A c zs 0 1000 _ h hl).mono ?_; rw [HA.out]; rintro e w1 ⟨rfl, hb1⟩))
      go_ret
      exact newInts_nil _ _ _ hb1
  · have E : rSlackOf zs = [] := if_neg (by omega)
    rw [E]
    have g : (zs.length : Int) < 1 ∨ 8 < (zs.length : Int) := by omega
    clear E h1
    go_enter Try.func19, Try.ntmps19
    go_wp2_with (go_at_call 33; refine (within_no _ _ _ _ g).mono ?_; rintro e w' ⟨rfl, rfl⟩)
    go_ret
    exact newInts_nil _ _ _ (Below.refl _ _)

/-! ### the reference -/
/-- The sum of the first k numbers. -/
def sumTo (zs : List Int) : Nat → Int
  | 0 => 0
  | k + 1 => sumTo zs k + zs.getD k 0
theorem tri_step (k : Nat) : (((k : Int) + 1 + 1) * ((k : Int) + 1)) / 2 = ((k : Int) + 1) * (k : Int) / 2 + ((k : Int) + 1) := by
  have e : ((k : Int) + 1 + 1) * ((k : Int) + 1) = ((k : Int) + 1) * (k : Int) + 2 * ((k : Int) + 1) := by
    rw [Int.add_mul ((k : Int) + 1) 1, Int.one_mul, Int.mul_add ((k : Int) + 1), Int.mul_one]; omega
  rw [e]; omega
theorem slk_sum (zs : List Int) (k : Nat) : slk zs (k + 1) = sumTo zs (k + 1) - ((k : Int) + 1) * (k : Int) / 2 := by
  induction k with
  | zero => simp [slk, sumTo]
  | succ k ih =>
    rw [slk, ih, show sumTo zs (k + 1 + 1) = sumTo zs (k + 1) + zs.getD (k + 1) 0 from rfl]
    have e : (((k + 1 : Nat) : Int) + 1) * ((k + 1 : Nat) : Int) / 2 = ((k : Int) + 1) * (k : Int) / 2 + ((k : Int) + 1) := by
      rw [Int.natCast_add]; exact tri_step k
    rw [e]
    omega
theorem tri_bd (k : Nat) (hk : k ≤ 8) : 0 ≤ ((k : Int) + 1) * (k : Int) ∧ ((k : Int) + 1) * (k : Int) ≤ 72 := by
  have h : k = 0 ∨ k = 1 ∨ k = 2 ∨ k = 3 ∨ k = 4 ∨ k = 5 ∨ k = 6 ∨ k = 7 ∨ k = 8 := by omega
  rcases h with rfl | rfl | rfl | rfl | rfl | rfl | rfl | rfl | rfl <;> decide
def InTo (zs : List Int) (m : Int) (k : Nat) : Prop := ∀ j, j < k → 0 ≤ zs.getD j 0 ∧ zs.getD j 0 ≤ m
theorem sumTo_bd (zs : List Int) (m : Int) (k : Nat) (h : InTo zs m k) : 0 ≤ sumTo zs k ∧ sumTo zs k ≤ m * (k : Int) := by
  induction k with
  | zero => simp [sumTo]
  | succ k ih =>
    have := h k (by omega)
    have := ih (fun j hj => h j (by omega))
    have e : m * ((k + 1 : Nat) : Int) = m * (k : Int) + m := by rw [Int.natCast_add, Int.mul_add]; simp
    rw [sumTo, e]
    omega
theorem allIn_of_to (zs : List Int) (m : Int) (h : InTo zs m zs.length) : allIn 0 m zs = true := by
  unfold allIn
  rw [List.all_eq_true]
  intro z hz
  obtain ⟨i, hi, rfl⟩ := List.mem_iff_getElem.1 hz
  have := h i hi
  rw [getD_lt _ _ _ hi] at this
  simp; omega
end Go.Proofs.Ytaocjjocncoahaa
