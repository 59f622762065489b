/- reach, l05Reach, walked. -/
import Derived.Test.YtaocjjocncoahaaReach
import Derived.Test.YtaocjjocncoahaaKings
namespace Go.Proofs.Ytaocjjocncoahaa
open Go.RowKit

theorem rc_fuel (W : List Nat) (hT : IsT W) (a : Nat) (ha : a < W.length) : 2 ^ a < 2 ^ W.length ∧ 9 ≤ pc 8 (2 ^ a) + 8 := by
  have := hT.h8
  exact ⟨Nat.pow_lt_pow_right (by omega) ha, by rw [pc_pow a (by omega)]; omega⟩
theorem rc_go (W : List Nat) (hT : IsT W) (f s a : Nat) (hs : s < 2 ^ W.length) (hp : 9 ≤ pc 8 s + (f + 1)) (h : rcF W (f + 1) s = rc W a) :
    (nx W s = s → rc W a = s) ∧ (nx W s ≠ s → nx W s < 2 ^ W.length ∧ 9 ≤ pc 8 (nx W s) + f ∧ s < nx W s ∧ rcF W f (nx W s) = rc W a) := by
  rw [← h]
  have e0 : rcF W (f + 1) s = if nx W s = s then s else rcF W f (nx W s) := rfl
  rw [e0]
  constructor
  · intro e; rw [if_pos e]
  · intro e
    rw [if_neg e]
    obtain ⟨h1, h2, h3⟩ := nx_more W hT s hs e
    refine ⟨h3, by omega, h2, rfl⟩
theorem reach_any (A : Option Addr) (c : Nat) (W : List Nat) (a : Nat) (w : World) (hT : IsT W) (h : Row w w.heap.size A (ints (casts W))) (ha : a < W.length) :
    Calls Try.prog 85 #[.agg #[.int .i64 (W.length : Int), .slice A W.length c], .int .i64 (a : Int)] w fun e w' => e = .returned (.int .i64 (rc W a : Nat)) ∧ Below w.heap.size w w' := by
  have g1 := hT.h1
  have g8 := hT.h8
  have h256 := pow_le8 W.length g8
  obtain ⟨f1, f2⟩ := rc_fuel W hT a ha
  have HQ := Lib.hid (pow_cast a)
  have hq2 : (1 : Int) * 2 ^ a = 2 ^ a := by omega
  obtain ⟨q1, q2⟩ := pow_small a (by omega)
  go_enter Try.func85, Try.ntmps85
  go_wp2
  obtain ⟨w1, hw1⟩ : ∃ w1, w1 = w.alloc (.cells #[.int .i64 (W.length : Int), .slice A W.length c] 26) := ⟨_, rfl⟩
  rw [← hw1]
  have k0 : w1.cell? ⟨w.heap.size, 0, none⟩ = some (.int .i64 (W.length : Int)) := by rw [hw1]; go_simp
  have k1 : w1.cell? ⟨w.heap.size, 1, none⟩ = some (.slice A W.length c) := by rw [hw1]; go_simp
  have hbw : Below w.heap.size w w1 := by rw [hw1]; go_grown
  have h := h.rowAt hbw (Nat.le_refl _)
  clear hw1 q1 q2 hq2
  go_loopw [5] (fun v wr => ∃ (f s : Nat), s < 2 ^ W.length ∧ v = .int .i64 (s : Int) ∧ 9 ≤ pc 8 s + f ∧ Hid (rcF W f s = rc W a) ∧ Below w1.heap.size w1 wr) (fun v _ => 256 - (intOf v).toNat)
  case atStart => exact ⟨8, 2 ^ a, f1, by first | rfl | rw [HQ.out], f2, Lib.hid rfl, Below.refl _ _⟩
  case round =>
    obtain ⟨f, s, hs, rfl, hp, HF, hb⟩ := hrel
    obtain ⟨f', rfl⟩ : ∃ f', f = f' + 1 := ⟨f - 1, by have := pc_le 8 s; omega⟩
    have HG := Lib.hid (rc_go W hT f' s a hs hp HF.out)
    have hs' : s < 256 := by omega
    clear HF hp f1 f2
    go_wp2_with fail
    refine (membersOf_any _ _ (by omega) (by omega)).mono ?_
    rintro e wl ⟨B, d, rfl, ho, hbl⟩
    rw [Int.toNat_natCast] at *
    rw [casts_length]
    have hbX := below_trans hb hbl
    obtain ⟨c0, c1⟩ := held_at k0 k1 hbX
    have hr : Row wl wl.heap.size B (ints (casts (mem 8 s))) := ho.row
    have hW1 : Row wl wl.heap.size A (ints (casts W)) := h.rowAt hbX (Nat.le_refl _)
    have hml : (mem 8 s).length ≤ 8 := by rw [mem_length]; exact pc_le 8 s
    have HT := Lib.hid hT
    clear ho hbl
    go_wp2
    go_loop [6, 15] (fun v i => ∃ (k y : Nat), k ≤ (mem 8 s).length ∧ i = .int .i64 k ∧ v = .int .i64 y ∧ Hid (y = uni W s ((mem 8 s).take k)) ∧ y < 256) (fun _ i => (mem 8 s).length - (intOf i).toNat)
    case atStart => exact ⟨0, s, Nat.zero_le _, rfl, rfl, Lib.hid rfl, hs'⟩
    case round =>
      obtain ⟨k, y, hk, rfl, rfl, HY, hy⟩ := hrel
      by_cases hlt : k < (mem 8 s).length
      · obtain ⟨b, off, rfl, _, hc⟩ := hr.nat hlt
        have hm := mem_lt W.length s hs k hlt
        have HU := Lib.hid (uni_snoc W s (mem 8 s) k hlt)
        have HL := Lib.hid (uni_lt W W.length HT.out.lt ((mem 8 s).take (k + 1)) s hs)
        generalize (mem 8 s)[k] = m at hc hm HU
        obtain ⟨b', off', rfl, _, hc'⟩ := hW1.nat hm
        have E : Hid (bits .or .i64 (y : Int) (W[m] : Nat) = ((uni W s ((mem 8 s).take (k + 1)) : Nat) : Int)) := Lib.hid (by
          rw [or_nat _ _ (by omega) (by have := HT.out.lt256' hm; omega), HU.out, HY.out, getD_lt _ _ _ hm])
        have hl256 : uni W s ((mem 8 s).take (k + 1)) < 256 := Nat.lt_of_lt_of_le HL.out h256
        generalize hz : uni W s ((mem 8 s).take (k + 1)) = z at *
        have HZ := Lib.hid hz.symm
        clear hz hr hW1 HU HL
        have e1 := E.out
        go_wp2
        go_round
        case rel => exact ⟨k + 1, z, by omega, by go_num, rfl, HZ, hl256⟩
        case measure => simp [intOf]; omega
      · have HF : Hid (y = nx W s) := Lib.hid (by rw [HY.out, List.take_of_length_le (by omega)]; rfl)
        have HR := Lib.hid (fun e => (HG.out.1 (HF.out.symm.trans e)))
        have HN := Lib.hid (fun (e : y ≠ s) => (by have := HG.out.2 (fun h => e (HF.out.trans h)); rw [← HF.out] at this; exact this : y < 2 ^ W.length ∧ 9 ≤ pc 8 y + f' ∧ s < y ∧ rcF W f' y = rc W a))
        clear HF HY HG hr hW1
        by_cases e : y = s
        · have HE := Lib.hid (HR.out e)
          have et : ((y : Int) == (s : Int)) = true := by rw [e]; simp
          clear e HR HN
          go_wp2
          go_ret
          exact ⟨ret_int (by rw [HE.out]), hbw.trans (hbX.mono hbw.size)⟩
        · obtain ⟨n1, n2, n3, n4⟩ := HN.out e
          have N4 := Lib.hid n4
          have et : ((y : Int) == (s : Int)) = false := by rw [beq_eq_false_iff_ne]; omega
          clear n4 e HR HN
          go_wp2
          go_roundw
          case rel => exact ⟨f', y, n1, rfl, n2, N4, hbX⟩
          case measure => simp [intOf]; omega
end Go.Proofs.Ytaocjjocncoahaa
