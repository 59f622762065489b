/- l04Number, walked: a tour's number. -/
import Derived.Test.YtaocjjocncoahaaDoorNum
import Derived.Test.YtaocjjocncoahaaDoorTri
namespace Go.Proofs.YtaocjjocncoahaaDoor
open Go.RowKit

theorem pow_28 (k : Nat) (h : k ≤ 28) : (2 : Nat) ^ k ≤ 268435456 ∧ (1 : Int) ≤ 2 ^ k ∧ (2 : Int) ^ k ≤ 268435456 := by
  have : ∀ k, k < 29 → (2 : Nat) ^ k ≤ 268435456 ∧ (1 : Int) ≤ 2 ^ k ∧ (2 : Int) ^ k ≤ 268435456 := by decide +kernel
  exact this k (by omega)
theorem off_28 (n : Nat) (h : n ≤ 8) : off n n ≤ 28 := by
  have : ∀ n, n < 9 → off n n ≤ 28 := by decide +kernel
  exact this n (by omega)
theorem gpos_le28 (n a b : Nat) (h8 : n ≤ 8) (ha : a < b) (hb : b ≤ n) : gpos n a b ≤ 28 := by
  have : ∀ n, n < 9 → ∀ b, b < n + 1 → ∀ a, a < b → gpos n a b ≤ 28 := by decide +kernel
  exact this n (by omega) b (by omega) a ha
theorem off_le28 (n a : Nat) (h8 : n ≤ 8) (ha : a ≤ n) : off n a ≤ 28 := by
  have : ∀ n, n < 9 → ∀ a, a < n + 1 → off n a ≤ 28 := by decide +kernel
  exact this n (by omega) a (by omega)
theorem sNumber_any (A : Option Addr) (c : Nat) (W : List Nat) (w : World) (hT : IsT W) (h : Row w w.heap.size A (ints (casts W))) :
    Calls Tryd.prog 33 #[.agg #[.int .i64 (W.length : Int), .slice A W.length c]] w fun e w' => e = .returned (.int .i64 (numW W : Nat)) ∧ Below w.heap.size w w' := by
  have g8 := hT.h8
  have HNW : Hid (numW W = ofB (off W.length W.length) (gm W)) := Lib.hid rfl
  have HBT := Lib.hid (fun a b v hv W' hr ha hb => l02BeatsW_any A c W a b v hv W' hT hr ha hb)
  have HGM := Lib.hid (fun a b hab hb => gm_at W g8 a b hab hb)
  have HOF := Lib.hid (show ∀ q, ofB (q + 1) (gm W) = ofB q (gm W) + (if gm W q then 2 ^ q else 0) from fun _ => rfl)
  have HLT := Lib.hid (fun q => ofB_lt q (gm W))
  go_enter Tryd.func33, Tryd.ntmps33
  go_wp2
  obtain ⟨w1, hw1⟩ : ∃ w1, w1 = w.alloc (.cells #[.int .i64 (W.length : Int), .slice A W.length c] 24) := ⟨_, rfl⟩
  rw [← hw1]
  have k0 : w1.cell? ⟨w.heap.size, 0, none⟩ = some (.int .i64 (W.length : Int)) := by rw [hw1]; go_simp
  have k1 : w1.cell? ⟨w.heap.size, 1, none⟩ = some (.slice A W.length c) := by rw [hw1]; go_simp
  have hbw : Below w.heap.size w w1 := by rw [hw1]; go_grown
  clear hw1
  go_loopw [3, 4, 5] (fun v q i wr => ∃ a : Nat, a ≤ W.length ∧ i = .int .i64 (a : Int) ∧ q = .int .i64 ((off W.length a : Nat) : Int) ∧ v = .int .i64 ((ofB (off W.length a) (gm W) : Nat) : Int) ∧ Below w1.heap.size w1 wr) (fun _ _ i _ => W.length - (intOf i).toNat)
  case atStart => exact ⟨0, Nat.zero_le _, rfl, rfl, rfl, Below.refl _ _⟩
  case round =>
    obtain ⟨a, ha, rfl, rfl, rfl, hb⟩ := hrel
    obtain ⟨c0, c1⟩ := held_at k0 k1 hb
    by_cases hlt : a < W.length
    · go_wp2
      go_loopw [3, 4, 6] (fun v q i wr => ∃ b : Nat, a + 1 ≤ b ∧ b ≤ W.length ∧ i = .int .i64 (b : Int) ∧ q = .int .i64 ((gpos W.length a b : Nat) : Int) ∧ v = .int .i64 ((ofB (gpos W.length a b) (gm W) : Nat) : Int) ∧ Below w1.heap.size w1 wr) (fun _ _ i _ => W.length - (intOf i).toNat)
      case atStart =>
        have e : gpos W.length a (a + 1) = off W.length a := by unfold gpos; omega
        exact ⟨a + 1, by omega, by omega, by go_num, by rw [e], by rw [e], hb⟩
      case round =>
        clear hb c0 c1
        obtain ⟨b, hab, hbl, rfl, rfl, rfl, hb⟩ := hrel
        obtain ⟨c0, c1⟩ := held_at k0 k1 hb
        by_cases hltb : b < W.length
        · have hgn := Lib.hid (show gpos W.length a (b + 1) = gpos W.length a b + 1 by unfold gpos; omega)
          have hq := gpos_le28 W.length a b g8 (by omega) hbl
          have HO := Lib.hid (HOF.out (gpos W.length a b))
          have HG := Lib.hid (HGM.out a b (by omega) hltb)
          have hv := HLT.out (gpos W.length a b)
          obtain ⟨v, hvv⟩ : ∃ v, bt W a b = v := ⟨_, rfl⟩
          have HB := Lib.hid (fun W' hr => HBT.out a b v hvv W' hr hlt hltb)
          have HG2 := Lib.hid (HG.out.trans hvv)
          clear HG hvv
          obtain ⟨x, hx⟩ : ∃ x, x = ofB (gpos W.length a b) (gm W) := ⟨_, rfl⟩
          obtain ⟨x', hx'⟩ : ∃ x', x' = ofB (gpos W.length a (b + 1)) (gm W) := ⟨_, rfl⟩
          have HX : Hid (x' = x + if v then 2 ^ gpos W.length a b else 0) := Lib.hid (by rw [hx', hx, hgn.out, HO.out, HG2.out])
          have HXX := Lib.hid hx'
          rw [← hx] at hv ⊢
          clear hx hx'
          generalize gpos W.length a b = q at *
          obtain ⟨p1, p2, p3⟩ := pow_28 q hq
          have hwp : IntKind.i64.wrap (2 ^ q) = 2 ^ q := by rw [IntKind.wrap_i64]; omega
          have hwx : IntKind.i64.wrap ((x : Int) + 2 ^ q) = (x : Int) + 2 ^ q := by rw [IntKind.wrap_i64]; omega
          go_wp2_with fail
          refine (HB.out _ (h.rowAt (hbw.trans (hb.mono (by have := hbw.size; omega))) (Nat.le_refl _))).mono ?_
          rintro e w2 ⟨rfl, hb2⟩
          have hb3 := below_trans hb hb2
          cases v with
          | true =>
            go_wp2
            go_roundw
            case rel => exact ⟨b + 1, by omega, by omega, by go_num, by rw [hgn.out]; go_num, by rw [← HXX.out, HX.out]; simp, hb3⟩
            case measure => simp [intOf]; omega
          | false =>
            go_wp2
            go_roundw
            case rel => exact ⟨b + 1, by omega, by omega, by go_num, by rw [hgn.out]; go_num, by rw [← HXX.out, HX.out]; simp, hb3⟩
            case measure => simp [intOf]; omega
        · obtain rfl : b = W.length := by omega
          have e : Hid (gpos W.length a W.length = off W.length (a + 1)) := Lib.hid (by unfold gpos; rw [off]; omega)
          go_wp2
          go_roundw
          case rel => exact ⟨a + 1, by omega, by go_num, by rw [e.out], by rw [e.out], hb⟩
          case measure => simp [intOf]; omega
    · obtain rfl : a = W.length := by omega
      go_wp2
      go_ret
      exact ⟨ret_int (by rw [HNW.out]), below_trans hbw hb⟩
end Go.Proofs.YtaocjjocncoahaaDoor
