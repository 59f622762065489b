/- Sets of small numbers as the bits of an int: the members, their number, walked. -/
import Derived.Test.YtaocjjocncoahaaPush
import Derived.Test.YtaocjjocncoahaaLib
import Derived.Test.YtaocjjocncoahaaMg10
import Derived.Deep.LoopGhost
namespace Go.Proofs.Ytaocjjocncoahaa
open Go.RowKit

def casts (ns : List Nat) : List Int := ns.map fun (n : Nat) => (n : Int)
theorem casts_length (ns : List Nat) : (casts ns).length = ns.length := by simp [casts]
theorem casts_append (a b : List Nat) : casts (a ++ b) = casts a ++ casts b := by simp [casts]

theorem div_pos (x a : Nat) (hx : x < 256) (h : 0 < x / 2 ^ a) : a < 8 := by
  rcases Nat.lt_or_ge a 8 with h1 | h1
  · exact h1
  · have : (2 : Nat) ^ 8 ≤ 2 ^ a := Nat.pow_le_pow_right (by omega) h1
    rw [Nat.div_eq_of_lt (by omega)] at h
    omega
theorem testBit_high (x a i : Nat) (h : x / 2 ^ a = 0) (hi : a ≤ i) : x.testBit i = false := by
  have hx : x < 2 ^ a := by
    rcases Nat.lt_or_ge x (2 ^ a) with h1 | h1
    · exact h1
    · have := Nat.div_pos h1 (Nat.two_pow_pos a); omega
  exact Nat.testBit_lt_two_pow (Nat.lt_of_lt_of_le hx (Nat.pow_le_pow_right (by omega) hi))
theorem mem_end (x a d : Nat) (h : x / 2 ^ a = 0) : mem (a + d) x = mem a x := by
  induction d with
  | zero => rfl
  | succ d ih => rw [← Nat.add_assoc, mem_succ, testBit_high x a (a + d) h (by omega)]; simpa using ih
theorem pc_end (x a d : Nat) (h : x / 2 ^ a = 0) : pc (a + d) x = pc a x := by rw [← mem_length, ← mem_length, mem_end x a d h]

theorem membersOf_any (x : Int) (w : World) (h0 : 0 ≤ x) (hx : x < 256) :
    Calls Try.prog 89 #[.int .i64 x] w (NewInts w 3 (casts (mem 8 x.toNat))) := by
  obtain ⟨s, rfl⟩ := Int.eq_ofNat_of_zero_le h0
  rw [Int.toNat_natCast]
  go_enter Try.func89, Try.ntmps89
  go_wp2
  go_loopw [3, 4] (fun v i wr => ∃ (k : Nat) (B : Option Addr) (d n : Nat), k ≤ 8 ∧ i = .int .i64 k ∧ v = .slice B n d ∧ Hid (n = (mem k s).length) ∧ n ≤ 8 ∧ Own wr w.heap.size wr.heap.size 3 B d (ints (casts (mem k s))) ∧ Below w.heap.size w wr)
    (fun _ i _ => 8 - (intOf i).toNat)
  case atStart => exact ⟨0, none, 0, 0, by omega, rfl, rfl, Lib.hid rfl, by omega, Own.nil _ _ _ _, Below.refl _ _⟩
  case round =>
    obtain ⟨k, B, d, n, hk, rfl, rfl, HN, hn, ho, hb⟩ := hrel
    by_cases hg : 0 < s / 2 ^ k
    · have hk8 := div_pos s k (by omega) hg
      have g1 : (0 : Int) < (s : Int) / 2 ^ k := by rw [shr_nat]; omega
      have TB := Lib.hid (bit_test s k (by omega))
      have HO := Lib.hid ho
      have hsz := hb.size
      have HP := Lib.hid (Nat.le_trans (Nat.le_of_eq (mem_length (k + 1) s)) (pc_le (k + 1) s))
      clear ho hg
      cases ht : s.testBit k with
      | true =>
        have HM : Hid (mem (k + 1) s = mem k s ++ [k]) := Lib.hid (by rw [mem_succ, ht]; rfl)
        have t1 : (bits .and .i64 ((s : Int) / 2 ^ k) 1 == 1) = true := by rw [TB.out]; exact ht
        clear ht
        go_wp2_with (at_builtin; refine wpList_push rfl (.tmp 16) (.tmp 18) rfl w.heap.size wr.heap.size B d n (casts (mem k s)) (k : Int) wr.heap.size rfl rfl ?c0 ?c1 ?c2 ?c3 ?c4 ?_)
        case c0 => rw [casts_length]; exact HN.out
        case c1 => exact HO.out.alloc (Nat.le_refl _) _
        case c2 => go_simp
        case c3 => omega
        case c4 => simp; omega
        intro A' c' w1 ho1 hg1
        have HO1 := Lib.hid ho1
        clear ho1
        go_wp2
        go_roundw
        case rel => exact ⟨k + 1, A', c', n + 1, by omega, by go_num, rfl, Lib.hid (by rw [HM.out, List.length_append, HN.out]; rfl), by have := HP.out; rw [HM.out, List.length_append, ← HN.out] at this; simp at this; omega, by rw [HM.out, casts_append]; exact HO1.out, below_only (hb.alloc hsz _) hg1 (Nat.le_refl _) (by simp; omega)⟩
        case measure => simp [intOf]; omega
      | false =>
        have HM : Hid (mem (k + 1) s = mem k s) := Lib.hid (by rw [mem_succ, ht]; simp)
        have t1 : (bits .and .i64 ((s : Int) / 2 ^ k) 1 == 1) = false := by rw [TB.out]; exact ht
        clear ht
        go_wp2
        go_roundw
        case rel => exact ⟨k + 1, B, d, n, by omega, by go_num, rfl, by rw [HM.out]; exact HN, hn, by rw [HM.out]; exact HO.out, hb⟩
        case measure => simp [intOf]; omega
    · have hz : s / 2 ^ k = 0 := Nat.eq_zero_of_not_pos hg
      have g1 : (s : Int) / 2 ^ k = 0 := by rw [shr_nat, hz]; rfl
      have E : Hid (mem 8 s = mem k s) := Lib.hid (by have := mem_end s k (8 - k) hz; rwa [show k + (8 - k) = 8 by omega] at this)
      clear hg hz
      have HO := Lib.hid ho
      clear ho
      go_wp2
      go_ret
      rw [E.out]
      exact ⟨B, d, ret_slice (by rw [casts_length]; exact HN.out), HO.out, hb⟩

theorem shr_succ (s k : Nat) : s / 2 ^ (k + 1) = s / 2 ^ k / 2 := by rw [Nat.div_div_eq_div_mul, Nat.pow_succ]
theorem low_bit (s k : Nat) (h : s < 9223372036854775808) : (bits .and .i64 ((s / 2 ^ k : Nat) : Int) 1 == 1) = s.testBit k := by
  have := bit_test s k h
  rwa [shr_nat] at this
theorem low_val (s k : Nat) (h : s < 9223372036854775808) : bits .and .i64 ((s / 2 ^ k : Nat) : Int) 1 = if s.testBit k then 1 else 0 := by
  rw [and_one _ (Nat.lt_of_le_of_lt (Nat.div_le_self _ _) h), Nat.testBit_eq_decide_div_mod_eq]
  have h1 : s / 2 ^ k % 2 < 2 := Nat.mod_lt _ (by omega)
  generalize s / 2 ^ k % 2 = y at *
  by_cases e : y = 1
  · subst e; rfl
  · have : y = 0 := by omega
    subst this; rfl

theorem l02List_any (x : Int) (w : World) (h0 : 0 ≤ x) (hx : x < 256) :
    Calls Try.prog 87 #[.int .i64 x] w (NewInts w 3 (casts (mem 8 x.toNat))) := by
  obtain ⟨s, rfl⟩ := Int.eq_ofNat_of_zero_le h0
  rw [Int.toNat_natCast]
  go_enter Try.func87, Try.ntmps87
  go_wp2
  go_loopw [0, 3, 4] (fun t v i wr => ∃ (k : Nat) (B : Option Addr) (d n y : Nat), k ≤ 8 ∧ i = .int .i64 k ∧ t = .int .i64 y ∧ Hid (y = s / 2 ^ k) ∧ y < 256 ∧ v = .slice B n d ∧ Hid (n = (mem k s).length) ∧ n ≤ 8 ∧ Own wr w.heap.size wr.heap.size 3 B d (ints (casts (mem k s))) ∧ Below w.heap.size w wr)
    (fun _ _ i _ => 8 - (intOf i).toNat)
  case atStart => exact ⟨0, some ⟨w.heap.size, 0, none⟩, 0, 0, s, by omega, rfl, rfl, Lib.hid (by simp), by omega, rfl, Lib.hid rfl, by omega, (show Own _ _ (w.alloc _).heap.size _ _ 0 [] from by rw [World.size_alloc]; exact Own.made w w.heap.size 3 #[] (Nat.le_refl _) (by simp)), (Below.refl _ _).alloc (Nat.le_refl _) _⟩
  case round =>
    obtain ⟨k, B, d, n, y, hk, rfl, rfl, HY, hy, rfl, HN, hn, ho, hb⟩ := hrel
    by_cases hg : 0 < y
    · have hk8 := div_pos s k (by omega) (by rw [← HY.out]; exact hg)
      have TB := Lib.hid (low_bit s k (by omega))
      have HY2 : Hid (y / 2 = s / 2 ^ (k + 1)) := Lib.hid (by rw [shr_succ, HY.out])
      have HO := Lib.hid ho
      have hsz := hb.size
      have HP := Lib.hid (Nat.le_trans (Nat.le_of_eq (mem_length (k + 1) s)) (pc_le (k + 1) s))
      clear ho
      cases ht : s.testBit k with
      | true =>
        have HM : Hid (mem (k + 1) s = mem k s ++ [k]) := Lib.hid (by rw [mem_succ, ht]; rfl)
        have t1 : (bits .and .i64 (y : Int) 1 == 1) = true := by rw [HY.out, TB.out]; exact ht
        clear ht
        go_wp2_with (at_builtin; refine wpList_push rfl (.tmp 13) (.tmp 15) rfl w.heap.size wr.heap.size B d n (casts (mem k s)) (k : Int) wr.heap.size rfl rfl ?c0 ?c1 ?c2 ?c3 ?c4 ?_)
        case c0 => rw [casts_length]; exact HN.out
        case c1 => exact HO.out.alloc (Nat.le_refl _) _
        case c2 => go_simp
        case c3 => omega
        case c4 => simp; omega
        intro A' c' w1 ho1 hg1
        have HO1 := Lib.hid ho1
        clear ho1
        go_wp2
        go_roundw
        case rel => exact ⟨k + 1, A', c', n + 1, y / 2, by omega, by go_num, by go_num, HY2, by omega, rfl, Lib.hid (by rw [HM.out, List.length_append, HN.out]; rfl), by have := HP.out; rw [HM.out, List.length_append, ← HN.out] at this; simp at this; omega, by rw [HM.out, casts_append]; exact HO1.out, below_only (hb.alloc hsz _) hg1 (Nat.le_refl _) (by simp; omega)⟩
        case measure => simp [intOf]; omega
      | false =>
        have HM : Hid (mem (k + 1) s = mem k s) := Lib.hid (by rw [mem_succ, ht]; simp)
        have t1 : (bits .and .i64 (y : Int) 1 == 1) = false := by rw [HY.out, TB.out]; exact ht
        clear ht
        go_wp2
        go_roundw
        case rel => exact ⟨k + 1, B, d, n, y / 2, by omega, by go_num, by go_num, HY2, by omega, rfl, by rw [HM.out]; exact HN, hn, by rw [HM.out]; exact HO.out, hb⟩
        case measure => simp [intOf]; omega
    · have hz : y = 0 := by omega
      have E : Hid (mem 8 s = mem k s) := Lib.hid (by have := mem_end s k (8 - k) (by rw [← HY.out]; exact hz); rwa [show k + (8 - k) = 8 by omega] at this)
      have HO := Lib.hid ho
      clear ho HY
      subst hz
      go_wp2
      go_ret
      rw [E.out]
      exact ⟨B, d, ret_slice (by rw [casts_length]; exact HN.out), HO.out, hb⟩

theorem l02Bits_any (x : Int) (w : World) (h0 : 0 ≤ x) (hx : x < 256) :
    Calls Try.prog 30 #[.int .i64 x] w fun e w' => e = .returned (.int .i64 (pc 8 x.toNat : Nat)) ∧ w = w' := by
  obtain ⟨s, rfl⟩ := Int.eq_ofNat_of_zero_le h0
  rw [Int.toNat_natCast]
  go_enter Try.func30, Try.ntmps30
  go_wp2
  go_loopg [0, 3] 8 (fun g t c wr => ∃ (k y : Nat), k ≤ 8 ∧ 8 - k ≤ g ∧ t = .int .i64 y ∧ Hid (y = s / 2 ^ k) ∧ y < 256 ∧ c = .int .i64 (pc k s : Nat) ∧ w = wr)
  case atStart => exact ⟨0, s, by omega, by omega, rfl, Lib.hid (by simp), by omega, rfl, rfl⟩
  case round =>
    obtain ⟨k, y, hk, hgg, rfl, HY, hy, rfl, rfl⟩ := hrel
    have hp := pc_le k s
    by_cases hg : 0 < y
    · have hk8 := div_pos s k (by omega) (by rw [← HY.out]; exact hg)
      have HY2 : Hid (y / 2 = s / 2 ^ (k + 1)) := Lib.hid (by rw [shr_succ, HY.out])
      have HP : Hid (((pc (k + 1) s : Nat) : Int) = (pc k s : Nat) + bits .and .i64 (y : Int) 1) := Lib.hid (by rw [HY.out, low_val s k (by omega), pc]; split <;> simp)
      have t1 : 0 ≤ bits .and .i64 (y : Int) 1 := by rw [HY.out, low_val s k (by omega)]; split <;> omega
      have t2 : bits .and .i64 (y : Int) 1 ≤ 1 := by rw [HY.out, low_val s k (by omega)]; split <;> omega
      go_wp2
      go_roundg (8 - (k + 1))
      case measure => omega
      case rel => exact ⟨k + 1, y / 2, by omega, by omega, by go_num, HY2, by omega, by rw [HP.out], rfl⟩
    · have hz : y = 0 := by omega
      have E : Hid (pc 8 s = pc k s) := Lib.hid (by have := pc_end s k (8 - k) (by rw [← HY.out]; exact hz); rwa [show k + (8 - k) = 8 by omega] at this)
      clear HY
      subst hz
      go_wp2
      go_ret
      exact ⟨ret_int (by rw [E.out]), rfl⟩
end Go.Proofs.Ytaocjjocncoahaa
