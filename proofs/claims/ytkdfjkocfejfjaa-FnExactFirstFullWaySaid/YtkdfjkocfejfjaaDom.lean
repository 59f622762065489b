/- Dominating sets: dominates, l07Dominates, IsDominating, walked. -/
import Derived.Test.YtkdfjkocfejfjaaIsT
namespace Go.Proofs.Ytkdfjkocfejfjaa
open Go.RowKit

/-- A set and all whom some players beat. -/
def uni (W : List Nat) (s : Nat) (ms : List Nat) : Nat := ms.foldl (fun acc a => acc ||| W.getD a 0) s
theorem uni_snoc (W : List Nat) (s : Nat) (ms : List Nat) (k : Nat) (hk : k < ms.length) : uni W s (ms.take (k + 1)) = uni W s (ms.take k) ||| W.getD ms[k] 0 := by
  unfold uni; rw [List.take_succ_eq_append_getElem hk, List.foldl_append]; rfl
theorem uni_lt (W : List Nat) (n : Nat) (hW : ∀ i, W.getD i 0 < 2 ^ n) (ms : List Nat) : ∀ (s : Nat), s < 2 ^ n → uni W s ms < 2 ^ n := by
  induction ms with
  | nil => intro s hs; exact hs
  | cons a ms ih => intro s hs; exact ih _ (Nat.or_lt_two_pow hs (hW a))
theorem mem_lt (n s : Nat) (hs : s < 2 ^ n) (k : Nat) (hk : k < (mem 8 s).length) : (mem 8 s)[k] < n := by
  have := (mem_mem 8 s _).1 (List.getElem_mem hk)
  rcases Nat.lt_or_ge (mem 8 s)[k] n with h | h
  · exact h
  · rw [Nat.testBit_lt_two_pow (Nat.lt_of_lt_of_le hs (Nat.pow_le_pow_right (by omega) h))] at this
    simp at this
theorem pow_cast (n : Nat) : ((2 : Int) ^ n) = ((2 ^ n : Nat) : Int) := by simp
theorem eq_all (x n : Nat) : ((x : Int) == 2 ^ n - 1) = (x == 2 ^ n - 1) := by
  have := Nat.two_pow_pos n
  rw [pow_cast, Bool.eq_iff_iff, beq_iff_eq, beq_iff_eq]
  omega
/-- Every player is in the set or beaten by someone in it. -/
def dom (W : List Nat) (s : Nat) : Bool := uni W s (mem 8 s) == 2 ^ W.length - 1

theorem l02All_any (A : Option Addr) (c n : Nat) (w : World) (h1 : 1 ≤ n) (h8 : n ≤ 8) :
    Calls Try.prog 53 #[.agg #[.int .i64 (n : Int), .slice A n c]] w fun e w' => e = .returned (.int .i64 (2 ^ n - 1)) ∧ Below w.heap.size w w' := by
  obtain ⟨p1, p2⟩ := pow_bd n h1 h8
  go_enter Try.func53, Try.ntmps53
  go_wp2
  go_ret
  exact ⟨rfl, by go_grown⟩

theorem l07Dominates_any (A : Option Addr) (c : Nat) (W : List Nat) (x : Int) (w : World) (hT : IsT W) (h : Row w w.heap.size A (ints (casts W))) (h0 : 0 ≤ x) (hx : x ≤ 2 ^ W.length - 1) :
    Calls Try.prog 54 #[.agg #[.int .i64 (W.length : Int), .slice A W.length c], .int .i64 x] w fun e w' => e = .returned (.bool (dom W x.toNat)) ∧ Below w.heap.size w w' := by
  obtain ⟨s, rfl⟩ := Int.eq_ofNat_of_zero_le h0
  rw [Int.toNat_natCast]
  have hs : s < 2 ^ W.length := by have := Nat.two_pow_pos W.length; rw [pow_cast] at hx; omega
  have hs' : s < 256 := Nat.lt_of_lt_of_le hs (pow_le8 _ hT.h8)
  have g1 := hT.h1
  have g8 := hT.h8
  go_enter Try.func54, Try.ntmps54
  go_wp2_with fail
  refine (l02List_any _ _ (by omega) (by omega)).mono ?_
  rintro e w1 ⟨B, d, rfl, ho, hb⟩
  rw [Int.toNat_natCast] at *
  rw [casts_length]
  obtain ⟨k0, k1, hbw, hsz⟩ := box1 hb
  have hr : Row w1 w1.heap.size B (ints (casts (mem 8 s))) := ho.row
  have hW1 : Row w1 w1.heap.size A (ints (casts W)) := h.rowAt hbw (Nat.le_refl _)
  have hml : (mem 8 s).length ≤ 8 := by rw [mem_length]; exact pc_le 8 s
  have HT := Lib.hid hT
  clear ho hb h hx
  go_wp2
  go_loop [5, 12] (fun v i => ∃ (k y : Nat), k ≤ (mem 8 s).length ∧ i = .int .i64 k ∧ v = .int .i64 y ∧ Hid (y = uni W s ((mem 8 s).take k)) ∧ y < 256) (fun _ i => (mem 8 s).length - (intOf i).toNat)
  case atStart => exact ⟨0, s, Nat.zero_le _, rfl, rfl, Lib.hid rfl, hs'⟩
  case round =>
    obtain ⟨k, y, hk, rfl, rfl, HY, hy⟩ := hrel
    by_cases hlt : k < (mem 8 s).length
    · obtain ⟨b, off, rfl, _, hc⟩ := hr.nat hlt
      have hm := mem_lt W.length s hs k hlt
      have HU := Lib.hid (uni_snoc W s (mem 8 s) k hlt)
      have HL := Lib.hid (uni_lt W W.length hT.lt ((mem 8 s).take (k + 1)) s hs)
      generalize (mem 8 s)[k] = m at hc hm HU
      obtain ⟨b', off', rfl, _, hc'⟩ := hW1.nat hm
      have E : Hid (bits .or .i64 (y : Int) (W[m] : Nat) = ((uni W s ((mem 8 s).take (k + 1)) : Nat) : Int)) := Lib.hid (by
        rw [or_nat _ _ (by omega) (by have := hT.lt256' hm; omega), HU.out, HY.out, getD_lt _ _ _ hm])
      have hl256 : uni W s ((mem 8 s).take (k + 1)) < 256 := Nat.lt_of_lt_of_le HL.out (pow_le8 _ g8)
      generalize hz : uni W s ((mem 8 s).take (k + 1)) = z at *
      have HZ := Lib.hid hz.symm
      clear hz hr hW1 HU HL
      have e1 := E.out
      go_wp2
      go_round
      case rel => exact ⟨k + 1, z, by omega, by go_num, rfl, HZ, hl256⟩
      case measure => simp [intOf]; omega
    · have HF : Hid (y = uni W s (mem 8 s)) := Lib.hid (by rw [HY.out, List.take_of_length_le (by omega)])
      have HE := Lib.hid (eq_all y W.length)
      clear hr
      go_wp2_with fail
      refine (l02All_any A c W.length _ g1 g8).mono ?_
      rintro e w2 ⟨rfl, hb2⟩
      go_wp2
      go_ret
      exact ⟨ret_bool (by rw [HE.out, HF.out]; rfl), below_trans hbw hb2⟩
theorem dominates_any (A : Option Addr) (c : Nat) (W : List Nat) (x : Int) (w : World) (hT : IsT W) (h : Row w w.heap.size A (ints (casts W))) (h0 : 0 ≤ x) (hx : x ≤ 2 ^ W.length - 1) :
    Calls Try.prog 58 #[.agg #[.int .i64 (W.length : Int), .slice A W.length c], .int .i64 x] w fun e w' => e = .returned (.bool (dom W x.toNat)) ∧ Below w.heap.size w w' := by
  obtain ⟨s, rfl⟩ := Int.eq_ofNat_of_zero_le h0
  rw [Int.toNat_natCast]
  have hs : s < 2 ^ W.length := by have := Nat.two_pow_pos W.length; rw [pow_cast] at hx; omega
  have hs' : s < 256 := Nat.lt_of_lt_of_le hs (pow_le8 _ hT.h8)
  have g1 := hT.h1
  have g8 := hT.h8
  go_enter Try.func58, Try.ntmps58
  go_wp2_with fail
  refine (membersOf_any _ _ (by omega) (by omega)).mono ?_
  rintro e w1 ⟨B, d, rfl, ho, hb⟩
  rw [Int.toNat_natCast] at *
  rw [casts_length]
  obtain ⟨k0, k1, hbw, hsz⟩ := box1 hb
  have hr : Row w1 w1.heap.size B (ints (casts (mem 8 s))) := ho.row
  have hW1 : Row w1 w1.heap.size A (ints (casts W)) := h.rowAt hbw (Nat.le_refl _)
  have hml : (mem 8 s).length ≤ 8 := by rw [mem_length]; exact pc_le 8 s
  have HT := Lib.hid hT
  clear ho hb h hx
  go_wp2
  go_loop [5, 12] (fun v i => ∃ (k y : Nat), k ≤ (mem 8 s).length ∧ i = .int .i64 k ∧ v = .int .i64 y ∧ Hid (y = uni W s ((mem 8 s).take k)) ∧ y < 256) (fun _ i => (mem 8 s).length - (intOf i).toNat)
  case atStart => exact ⟨0, s, Nat.zero_le _, rfl, rfl, Lib.hid rfl, hs'⟩
  case round =>
    obtain ⟨k, y, hk, rfl, rfl, HY, hy⟩ := hrel
    by_cases hlt : k < (mem 8 s).length
    · obtain ⟨b, off, rfl, _, hc⟩ := hr.nat hlt
      have hm := mem_lt W.length s hs k hlt
      have HU := Lib.hid (uni_snoc W s (mem 8 s) k hlt)
      have HL := Lib.hid (uni_lt W W.length hT.lt ((mem 8 s).take (k + 1)) s hs)
      generalize (mem 8 s)[k] = m at hc hm HU
      obtain ⟨b', off', rfl, _, hc'⟩ := hW1.nat hm
      have E : Hid (bits .or .i64 (y : Int) (W[m] : Nat) = ((uni W s ((mem 8 s).take (k + 1)) : Nat) : Int)) := Lib.hid (by
        rw [or_nat _ _ (by omega) (by have := hT.lt256' hm; omega), HU.out, HY.out, getD_lt _ _ _ hm])
      have hl256 : uni W s ((mem 8 s).take (k + 1)) < 256 := Nat.lt_of_lt_of_le HL.out (pow_le8 _ g8)
      generalize hz : uni W s ((mem 8 s).take (k + 1)) = z at *
      have HZ := Lib.hid hz.symm
      clear hz hr hW1 HU HL
      have e1 := E.out
      go_wp2
      go_round
      case rel => exact ⟨k + 1, z, by omega, by go_num, rfl, HZ, hl256⟩
      case measure => simp [intOf]; omega
    · have HF : Hid (y = uni W s (mem 8 s)) := Lib.hid (by rw [HY.out, List.take_of_length_le (by omega)])
      have HE := Lib.hid (eq_all y W.length)
      clear hr
      obtain ⟨p1, p2⟩ := pow_bd W.length g1 g8
      go_wp2
      go_ret
      exact ⟨ret_bool (by rw [HE.out, HF.out]; rfl), hbw⟩
/-- What both functions IsDominating answer. -/
def rIsDominating (s : Int) (zs : List Int) (x : Int) : Bool := okB s zs && (decide (1 ≤ x) && decide (x ≤ 2 ^ zs.length - 1)) && dom (toW zs) x.toNat

end Go.Proofs.Ytkdfjkocfejfjaa
