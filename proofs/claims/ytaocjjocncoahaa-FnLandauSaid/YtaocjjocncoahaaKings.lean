/- Kings: isKing, kings, KingsOf and the reference's, walked. -/
import Derived.Test.YtaocjjocncoahaaDom
namespace Go.Proofs.Ytaocjjocncoahaa
open Go.RowKit

/-- A player is a king. -/
def kg (W : List Nat) (a : Nat) : Bool := uni W (2 ^ a ||| W.getD a 0) (mem 8 (W.getD a 0)) == 2 ^ W.length - 1
/-- The set of all kings. -/
def kingsN (W : List Nat) : Nat := ofB W.length (kg W)

theorem pow_small (k : Nat) (h : k < 8) : (1 : Int) ≤ 2 ^ k ∧ (2 : Int) ^ k ≤ 128 := by
  have h : k = 0 ∨ k = 1 ∨ k = 2 ∨ k = 3 ∨ k = 4 ∨ k = 5 ∨ k = 6 ∨ k = 7 := by omega
  rcases h with rfl | rfl | rfl | rfl | rfl | rfl | rfl | rfl <;> decide
theorem or_pow (k y : Nat) (h : k < 8) (hy : y < 256) : bits .or .i64 ((2 : Int) ^ k) (y : Int) = ((2 ^ k ||| y : Nat) : Int) := by
  have := pow_small k h
  rw [pow_cast] at *
  rw [or_nat _ _ (by omega) (by omega)]
theorem or_pow' (k y : Nat) (h : k < 8) (hy : y < 256) : bits .or .i64 (y : Int) ((2 : Int) ^ k) = ((2 ^ k ||| y : Nat) : Int) := by
  have := pow_small k h
  rw [pow_cast] at *
  rw [or_nat _ _ (by omega) (by omega), Nat.or_comm]
theorem start_lt (W : List Nat) (hT : IsT W) (k : Nat) (hk : k < W.length) : 2 ^ k ||| W.getD k 0 < 2 ^ W.length :=
  Nat.or_lt_two_pow (Nat.pow_lt_pow_right (by omega) hk) (hT.lt k)

theorem isKing_any (A : Option Addr) (c : Nat) (W : List Nat) (x : Int) (w : World) (hT : IsT W) (h : Row w w.heap.size A (ints (casts W))) (h0 : 0 ≤ x) (hx : x < (W.length : Int)) :
    Calls Try.prog 68 #[.agg #[.int .i64 (W.length : Int), .slice A W.length c], .int .i64 x] w fun e w' => e = .returned (.bool (kg W x.toNat)) ∧ Below w.heap.size w w' := by
  obtain ⟨a, rfl⟩ := Int.eq_ofNat_of_zero_le h0
  rw [Int.toNat_natCast]
  have g1 := hT.h1
  have g8 := hT.h8
  have ha : a < W.length := by omega
  have hs := start_lt W hT a ha
  obtain ⟨b0, off0, rfl, hb0, hc0⟩ := h.nat ha
  have hwa := hT.lt256' ha
  obtain ⟨q1, q2⟩ := pow_small a (by omega)
  have hw1 : IntKind.i64.wrap (2 ^ a) = 2 ^ a := by rw [IntKind.wrap_i64]; omega
  have ES := or_pow a W[a] (by omega) hwa
  have HG : Hid (W.getD a 0 = W[a]) := Lib.hid (getD_lt _ _ _ ha)
  go_enter Try.func68, Try.ntmps68
  go_wp2
  go_quiet (fail)
  clear hw1 ES
  go_wp2_with fail
  refine (membersOf_any _ _ (by omega) (by omega)).mono ?_
  rintro e w1 ⟨B, d, rfl, ho, hb⟩
  rw [Int.toNat_natCast] at *
  rw [casts_length]
  obtain ⟨k0, k1, hbw, hsz⟩ := box1N hb
  have hr : Row w1 w1.heap.size B (ints (casts (mem 8 W[a]))) := ho.row
  have hW1 : Row w1 w1.heap.size (some ⟨b0, off0, none⟩) (ints (casts W)) := h.rowAt hbw (Nat.le_refl _)
  have hml : (mem 8 W[a]).length ≤ 8 := by rw [mem_length]; exact pc_le 8 _
  have HT := Lib.hid hT
  have HS := Lib.hid hs
  have hm0 := fun k (hkk : k < (mem 8 W[a]).length) => mem_lt W.length W[a] (hT.lt' ha) k hkk
  have HM := Lib.hid hm0
  rw [HG.out] at HS
  have HK : Hid (kg W a = (uni W (2 ^ a ||| W[a]) (mem 8 W[a]) == 2 ^ W.length - 1)) := Lib.hid (by unfold kg; rw [HG.out])
  generalize hst : 2 ^ a ||| W[a] = st at *
  have hst' : st < 256 := Nat.lt_of_lt_of_le HS.out (pow_le8 _ g8)
  generalize mem 8 W[a] = ms at *
  clear ho hb h hs hst hm0 hwa q1 q2 hc0
  go_wp2
  go_loop [5, 23] (fun v i => ∃ (k y : Nat), k ≤ ms.length ∧ i = .int .i64 k ∧ v = .int .i64 y ∧ Hid (y = uni W st (ms.take k)) ∧ y < 256) (fun _ i => ms.length - (intOf i).toNat)
  case atStart => exact ⟨0, st, Nat.zero_le _, rfl, rfl, Lib.hid rfl, hst'⟩
  case round =>
    obtain ⟨k, y, hk, rfl, rfl, HY, hy⟩ := hrel
    by_cases hlt : k < ms.length
    · obtain ⟨b, off, rfl, _, hc⟩ := hr.nat hlt
      have hm := HM.out k hlt
      have HU := Lib.hid (uni_snoc W st ms k hlt)
      have HL := Lib.hid (uni_lt W W.length hT.lt (ms.take (k + 1)) st HS.out)
      generalize ms[k] = m at hc hm HU
      obtain ⟨b', off', e, _, hc'⟩ := hW1.nat hm
      simp only [Option.some.injEq, Addr.mk.injEq, and_true] at e
      obtain ⟨rfl, rfl⟩ := e
      have E : Hid (bits .or .i64 (y : Int) (W[m] : Nat) = ((uni W st (ms.take (k + 1)) : Nat) : Int)) := Lib.hid (by
        rw [or_nat _ _ (by omega) (by have := hT.lt256' hm; omega), HU.out, HY.out, getD_lt _ _ _ hm])
      have hl256 : uni W st (ms.take (k + 1)) < 256 := Nat.lt_of_lt_of_le HL.out (pow_le8 _ g8)
      generalize hz : uni W st (ms.take (k + 1)) = z at *
      have HZ := Lib.hid hz.symm
      clear hz hr hW1 HU HL
      have e1 := E.out
      go_wp2
      go_round
      case rel => exact ⟨k + 1, z, by omega, by go_num, rfl, HZ, hl256⟩
      case measure => simp [intOf]; omega
    · have HF : Hid (y = uni W st ms) := Lib.hid (by rw [HY.out, List.take_of_length_le (by omega)])
      have HE := Lib.hid (eq_all y W.length)
      clear hr
      obtain ⟨p1, p2⟩ := pow_bd W.length g1 g8
      go_wp2
      go_ret
      exact ⟨ret_bool (by rw [HE.out, HF.out]; exact HK.out.symm), hbw⟩
theorem l07King_any (A : Option Addr) (c : Nat) (W : List Nat) (x : Int) (w : World) (hT : IsT W) (h : Row w w.heap.size A (ints (casts W))) (h0 : 0 ≤ x) (hx : x < (W.length : Int)) :
    Calls Try.prog 61 #[.agg #[.int .i64 (W.length : Int), .slice A W.length c], .int .i64 x] w fun e w' => e = .returned (.bool (kg W x.toNat)) ∧ Below w.heap.size w w' := by
  obtain ⟨a, rfl⟩ := Int.eq_ofNat_of_zero_le h0
  rw [Int.toNat_natCast]
  have g1 := hT.h1
  have g8 := hT.h8
  have ha : a < W.length := by omega
  have hs := start_lt W hT a ha
  obtain ⟨b0, off0, rfl, hb0, hc0⟩ := h.nat ha
  have hwa := hT.lt256' ha
  obtain ⟨q1, q2⟩ := pow_small a (by omega)
  have hw1 : IntKind.i64.wrap (2 ^ a) = 2 ^ a := by rw [IntKind.wrap_i64]; omega
  have ES := or_pow' a W[a] (by omega) hwa
  have HG : Hid (W.getD a 0 = W[a]) := Lib.hid (getD_lt _ _ _ ha)
  go_enter Try.func61, Try.ntmps61
  go_wp2
  go_quiet (fail)
  clear hw1 ES
  go_wp2_with fail
  refine (l02List_any _ _ (by omega) (by omega)).mono ?_
  rintro e w1 ⟨B, d, rfl, ho, hb⟩
  rw [Int.toNat_natCast] at *
  rw [casts_length]
  obtain ⟨k0, k1, hbw, hsz⟩ := box1N hb
  have hr : Row w1 w1.heap.size B (ints (casts (mem 8 W[a]))) := ho.row
  have hW1 : Row w1 w1.heap.size (some ⟨b0, off0, none⟩) (ints (casts W)) := h.rowAt hbw (Nat.le_refl _)
  have hml : (mem 8 W[a]).length ≤ 8 := by rw [mem_length]; exact pc_le 8 _
  have HT := Lib.hid hT
  have HS := Lib.hid hs
  have hm0 := fun k (hkk : k < (mem 8 W[a]).length) => mem_lt W.length W[a] (hT.lt' ha) k hkk
  have HM := Lib.hid hm0
  rw [HG.out] at HS
  have HK : Hid (kg W a = (uni W (2 ^ a ||| W[a]) (mem 8 W[a]) == 2 ^ W.length - 1)) := Lib.hid (by unfold kg; rw [HG.out])
  generalize hst : 2 ^ a ||| W[a] = st at *
  have hst' : st < 256 := Nat.lt_of_lt_of_le HS.out (pow_le8 _ g8)
  generalize mem 8 W[a] = ms at *
  clear ho hb h hs hst hm0 hwa q1 q2 hc0
  go_wp2
  go_loop [5, 23] (fun v i => ∃ (k y : Nat), k ≤ ms.length ∧ i = .int .i64 k ∧ v = .int .i64 y ∧ Hid (y = uni W st (ms.take k)) ∧ y < 256) (fun _ i => ms.length - (intOf i).toNat)
  case atStart => exact ⟨0, st, Nat.zero_le _, rfl, rfl, Lib.hid rfl, hst'⟩
  case round =>
    obtain ⟨k, y, hk, rfl, rfl, HY, hy⟩ := hrel
    by_cases hlt : k < ms.length
    · obtain ⟨b, off, rfl, _, hc⟩ := hr.nat hlt
      have hm := HM.out k hlt
      have HU := Lib.hid (uni_snoc W st ms k hlt)
      have HL := Lib.hid (uni_lt W W.length hT.lt (ms.take (k + 1)) st HS.out)
      generalize ms[k] = m at hc hm HU
      obtain ⟨b', off', e, _, hc'⟩ := hW1.nat hm
      simp only [Option.some.injEq, Addr.mk.injEq, and_true] at e
      obtain ⟨rfl, rfl⟩ := e
      have E : Hid (bits .or .i64 (y : Int) (W[m] : Nat) = ((uni W st (ms.take (k + 1)) : Nat) : Int)) := Lib.hid (by
        rw [or_nat _ _ (by omega) (by have := hT.lt256' hm; omega), HU.out, HY.out, getD_lt _ _ _ hm])
      have hl256 : uni W st (ms.take (k + 1)) < 256 := Nat.lt_of_lt_of_le HL.out (pow_le8 _ g8)
      generalize hz : uni W st (ms.take (k + 1)) = z at *
      have HZ := Lib.hid hz.symm
      clear hz hr hW1 HU HL
      have e1 := E.out
      go_wp2
      go_round
      case rel => exact ⟨k + 1, z, by omega, by go_num, rfl, HZ, hl256⟩
      case measure => simp [intOf]; omega
    · have HF : Hid (y = uni W st ms) := Lib.hid (by rw [HY.out, List.take_of_length_le (by omega)])
      have HE := Lib.hid (eq_all y W.length)
      clear hr
      go_wp2_with fail
      refine (l02All_any (some ⟨b0, off0, none⟩) c W.length _ g1 g8).mono ?_
      rintro e w2 ⟨rfl, hb2⟩
      go_wp2
      go_ret
      exact ⟨ret_bool (by rw [HE.out, HF.out]; exact HK.out.symm), below_trans hbw hb2⟩

theorem ofB_le (n k : Nat) (f : Nat → Bool) (hk : k ≤ n) (hn : n ≤ 8) : ofB k f < 256 :=
  Nat.lt_of_lt_of_le (ofB_lt k f) (pow_le8 k (by omega))

theorem kings_any (A : Option Addr) (c : Nat) (W : List Nat) (w : World) (hT : IsT W) (h : Row w w.heap.size A (ints (casts W))) :
    Calls Try.prog 36 #[.agg #[.int .i64 (W.length : Int), .slice A W.length c]] w fun e w' => e = .returned (.int .i64 (kingsN W : Nat)) ∧ Below w.heap.size w w' := by
  have g1 := hT.h1
  have g8 := hT.h8
  go_enter Try.func36, Try.ntmps36
  go_wp2
  obtain ⟨w1, hw1⟩ : ∃ w1, w1 = w.alloc (.cells #[.int .i64 (W.length : Int), .slice A W.length c] 26) := ⟨_, rfl⟩
  rw [← hw1]
  have k0 : w1.cell? ⟨w.heap.size, 0, none⟩ = some (.int .i64 (W.length : Int)) := by rw [hw1]; go_simp
  have k1 : w1.cell? ⟨w.heap.size, 1, none⟩ = some (.slice A W.length c) := by rw [hw1]; go_simp
  have hbw : Below w.heap.size w w1 := by rw [hw1]; go_grown
  have hsz : w.heap.size + 1 ≤ w1.heap.size := by rw [hw1]; simp
  clear hw1
  go_loopw [3, 7] (fun v i wr => ∃ k : Nat, k ≤ W.length ∧ i = .int .i64 k ∧ v = .int .i64 (ofB k (kg W) : Nat) ∧ Below (w.heap.size + 1) w1 wr) (fun _ i _ => W.length - (intOf i).toNat)
  case atStart => exact ⟨0, Nat.zero_le _, rfl, rfl, Below.refl _ _⟩
  case round =>
    obtain ⟨k, hk, rfl, rfl, hb⟩ := hrel
    have c0 := (hb.cell (p := ⟨w.heap.size, 0, none⟩) (by simp)).trans k0
    have c1 := (hb.cell (p := ⟨w.heap.size, 1, none⟩) (by simp)).trans k1
    have hsz2 := hb.size
    have hle := ofB_le W.length k (kg W) hk g8
    by_cases hlt : k < W.length
    · have hr : Row wr wr.heap.size A (ints (casts W)) := ((h.below hbw (Nat.le_refl _)).below hb (by omega)).mono (by omega)
      have hcall := isKing_any A c W (k : Int) wr hT hr (by omega) (by omega)
      rw [Int.toNat_natCast] at hcall
      have HC := Lib.hid hcall
      clear hcall hr h
      obtain ⟨q1, q2⟩ := pow_small k (by omega)
      have hle2 := ofB_le W.length (k + 1) (kg W) (by omega) g8
      cases hkg : kg W k with
      | true =>
        have E1 : bits .or .i64 ((ofB k (kg W) : Nat) : Int) ((2 : Int) ^ k) = ((ofB (k + 1) (kg W) : Nat) : Int) := by
          rw [or_pow' k _ (by omega) hle, ofB_or, hkg, if_pos rfl, Nat.or_comm]
        have HK := Lib.hid hkg
        clear hkg
        go_wp2_with (go_at_call 68; refine HC.out.mono ?_; rw [HK.out]; rintro e w2 ⟨rfl, hb2⟩)
        go_roundw
        case rel => exact ⟨k + 1, by omega, by go_num, rfl, hb.trans (hb2.mono (by omega))⟩
        case measure => simp [intOf]; omega
      | false =>
        have E1 : Hid (ofB (k + 1) (kg W) = ofB k (kg W)) := Lib.hid (by rw [ofB, hkg]; simp)
        have HK := Lib.hid hkg
        clear hkg
        go_wp2_with (go_at_call 68; refine HC.out.mono ?_; rw [HK.out]; rintro e w2 ⟨rfl, hb2⟩)
        go_roundw
        case rel => exact ⟨k + 1, by omega, by go_num, by rw [E1.out], hb.trans (hb2.mono (by omega))⟩
        case measure => simp [intOf]; omega
    · obtain rfl : k = W.length := by omega
      go_wp2
      go_ret
      exact ⟨rfl, hbw.trans (hb.mono (by omega))⟩
theorem l07Kings_any (A : Option Addr) (c : Nat) (W : List Nat) (w : World) (hT : IsT W) (h : Row w w.heap.size A (ints (casts W))) :
    Calls Try.prog 31 #[.agg #[.int .i64 (W.length : Int), .slice A W.length c]] w fun e w' => e = .returned (.int .i64 (kingsN W : Nat)) ∧ Below w.heap.size w w' := by
  have g1 := hT.h1
  have g8 := hT.h8
  go_enter Try.func31, Try.ntmps31
  go_wp2
  obtain ⟨w1, hw1⟩ : ∃ w1, w1 = w.alloc (.cells #[.int .i64 (W.length : Int), .slice A W.length c] 26) := ⟨_, rfl⟩
  rw [← hw1]
  have k0 : w1.cell? ⟨w.heap.size, 0, none⟩ = some (.int .i64 (W.length : Int)) := by rw [hw1]; go_simp
  have k1 : w1.cell? ⟨w.heap.size, 1, none⟩ = some (.slice A W.length c) := by rw [hw1]; go_simp
  have hbw : Below w.heap.size w w1 := by rw [hw1]; go_grown
  have hsz : w.heap.size + 1 ≤ w1.heap.size := by rw [hw1]; simp
  clear hw1
  go_loopw [3, 8] (fun v i wr => ∃ k : Nat, k ≤ W.length ∧ i = .int .i64 k ∧ v = .int .i64 (ofB k (kg W) : Nat) ∧ Below (w.heap.size + 1) w1 wr) (fun _ i _ => W.length - (intOf i).toNat)
  case atStart => exact ⟨0, Nat.zero_le _, rfl, rfl, Below.refl _ _⟩
  case round =>
    obtain ⟨k, hk, rfl, rfl, hb⟩ := hrel
    have c0 := (hb.cell (p := ⟨w.heap.size, 0, none⟩) (by simp)).trans k0
    have c1 := (hb.cell (p := ⟨w.heap.size, 1, none⟩) (by simp)).trans k1
    have hsz2 := hb.size
    have hle := ofB_le W.length k (kg W) hk g8
    by_cases hlt : k < W.length
    · have hr : Row wr wr.heap.size A (ints (casts W)) := ((h.below hbw (Nat.le_refl _)).below hb (by omega)).mono (by omega)
      have hcall := l07King_any A c W (k : Int) wr hT hr (by omega) (by omega)
      rw [Int.toNat_natCast] at hcall
      have HC := Lib.hid hcall
      clear hcall hr h
      obtain ⟨q1, q2⟩ := pow_small k (by omega)
      have hle2 := ofB_le W.length (k + 1) (kg W) (by omega) g8
      cases hkg : kg W k with
      | true =>
        have E1 : Hid (((ofB (k + 1) (kg W) : Nat) : Int) = (ofB k (kg W) : Nat) + 2 ^ k) := Lib.hid (by rw [ofB, hkg, if_pos rfl, Int.natCast_add, pow_cast])
        have HK := Lib.hid hkg
        clear hkg
        go_wp2_with (go_at_call 61; refine HC.out.mono ?_; rw [HK.out]; rintro e w2 ⟨rfl, hb2⟩)
        go_roundw
        case rel => exact ⟨k + 1, by omega, by go_num, by rw [E1.out], hb.trans (hb2.mono (by omega))⟩
        case measure => simp [intOf]; omega
      | false =>
        have E1 : Hid (ofB (k + 1) (kg W) = ofB k (kg W)) := Lib.hid (by rw [ofB, hkg]; simp)
        have HK := Lib.hid hkg
        clear hkg
        go_wp2_with (go_at_call 61; refine HC.out.mono ?_; rw [HK.out]; rintro e w2 ⟨rfl, hb2⟩)
        go_roundw
        case rel => exact ⟨k + 1, by omega, by go_num, by rw [E1.out], hb.trans (hb2.mono (by omega))⟩
        case measure => simp [intOf]; omega
    · obtain rfl : k = W.length := by omega
      go_wp2
      go_ret
      exact ⟨rfl, hbw.trans (hb.mono (by omega))⟩

/-- What both functions KingsOf answer. -/
def rKingsOf (s : Int) (zs : List Int) : Int := if okB s zs then (kingsN (toW zs) : Nat) else 0

end Go.Proofs.Ytaocjjocncoahaa
