/- slices.Max, l03Sort, the reference's SequenceOf, IsRegular, walked. -/
import Derived.Test.YtaocjjocncoahaaMg1
import Derived.Test.YtaocjjocncoahaaMg5
import Derived.Test.YtaocjjocncoahaaScore
import Derived.Test.YtaocjjocncoahaaOrd
import Derived.WalkSpells
namespace Go.Proofs.Ytaocjjocncoahaa
open Go.RowKit

theorem max_any (A : Option Addr) (c : Nat) (zs : List Int) (w : World) (h : Row w w.heap.size A (ints zs)) (h0 : 0 < zs.length) (hl : zs.length ≤ 1099511627776) :
    Calls Try.prog 59 #[.slice A zs.length c] w fun e w' => e = .returned (.int .i64 (maxL zs (zs.length - 1))) ∧ w = w' := by
  obtain ⟨b, off, rfl, hbB, hc⟩ := h.int h0
  have E0 : Hid (zs.getD 0 0 = zs[0]) := Lib.hid (getD_lt _ _ _ (by omega))
  generalize hx : zs[0] = x at hc E0
  clear hx
  have hc1 : w.cell? ⟨b, off, none⟩ = some (.int .i64 x) := hc
  clear hc
  go_enter Try.func59, Try.ntmps59
  go_wp2
  go_loop [3, 4] (fun m i => ∃ k : Nat, k + 1 ≤ zs.length ∧ i = .int .i64 ((k : Int) + 1) ∧ m = .int .i64 (maxL zs k)) (fun _ i => zs.length - (intOf i).toNat)
  case atStart => exact ⟨0, by omega, rfl, by unfold maxL; rw [E0.out]⟩
  case round =>
    obtain ⟨k, hk, rfl, rfl⟩ := hrel
    by_cases hlt : k + 1 < zs.length
    · obtain ⟨b', off', e, _, hc'⟩ := h.int (k := k + 1) hlt
      simp only [Option.some.injEq, Addr.mk.injEq, and_true] at e
      obtain ⟨rfl, rfl⟩ := e
      have E1 : Hid ((if maxL zs k < zs[k + 1] then zs[k + 1] else maxL zs k) = maxL zs (k + 1)) := Lib.hid (by rw [maxL, getD_lt _ _ _ hlt, Int.max_def]; split <;> split <;> omega)
      clear h
      generalize hy : zs[k + 1] = y at hc' E1
      clear hy
      go_wp2
      go_round
      case rel => exact ⟨k + 1, by omega, by go_num, by rw [← E1.out]⟩
      case measure => simp [intOf]; omega
    · have e : k = zs.length - 1 := by omega
      subst e
      go_wp2
      go_ret
      exact ⟨rfl, rfl⟩

theorem slice_len {A : Option Addr} {a b c : Nat} (h : a = b) : Value.slice A a c = .slice A b c := by rw [h]
theorem take_len (out : List Int) (j : Nat) (h : j ≤ out.length) : j = (out.take j).length := by rw [List.length_take]; omega
set_option maxHeartbeats 1600000 in
theorem l03Sort_any (A : Option Addr) (c : Nat) (zs : List Int) (w : World) (h : Row w w.heap.size A (ints zs)) (hl : zs.length ≤ 1000000) :
    Calls Try.prog 38 #[.slice A zs.length c] w (NewInts w 3 (sortL zs)) := by
  go_enter Try.func38, Try.ntmps38
  go_wp2
  go_loopw [3, 11] (fun v i wr => ∃ (k g d : Nat), k ≤ zs.length ∧ i = .int .i64 k ∧ v = .slice (some ⟨g, 0, none⟩) k d ∧ Own wr w.heap.size wr.heap.size 3 (some ⟨g, 0, none⟩) d (ints (sortK zs k)) ∧ Below w.heap.size w wr) (fun _ i _ => zs.length - (intOf i).toNat)
  case atStart => exact ⟨0, w.heap.size, 0, Nat.zero_le _, rfl, rfl, (Own.made w w.heap.size 3 #[] (Nat.le_refl _) (by simp)).mono (Nat.le_refl _) (by simp), (Below.refl _ _).alloc (Nat.le_refl _) _⟩
  case round =>
    obtain ⟨k, g, d, hk, rfl, rfl, ho, hb⟩ := hrel
    have hsl := sortK_length zs k
    have hkd : k ≤ d := by have := ho.cap.1; rw [ints_length, hsl] at this; exact this
    have hdm : d ≤ 9223372036854775807 := by have := ho.cap.2; unfold maxLen at this; exact this
    have HO := Lib.hid ho
    clear ho
    by_cases hlt : k < zs.length
    · obtain ⟨b, off, rfl, hbB, hc⟩ := (h.below hb (Nat.le_refl _)).int hlt
      have HS : Hid (sortK zs (k + 1) = insL zs[k] (sortK zs k)) := Lib.hid (by rw [sortK, getD_lt _ _ _ hlt])
      have HSL := Lib.hid hsl
      clear hsl
      generalize zs[k] = x at hc HS
      generalize sortK zs k = out at HO HS HSL
      go_wp2
      go_loop [6] (fun i => ∃ j : Nat, j ≤ k ∧ i = .int .i64 j ∧ Hid (posD out x k = posD out x j)) (fun i => (intOf i).toNat)
      case atStart => exact ⟨k, Nat.le_refl _, rfl, Lib.hid rfl⟩
      case round =>
        obtain ⟨j, hj, rfl, HJ⟩ := hrel
        by_cases hcc : 0 < j ∧ x < out.getD (j - 1) 0
        · obtain ⟨j0, jx⟩ := hcc
          obtain ⟨m, rfl⟩ : ∃ m, j = m + 1 := ⟨j - 1, by omega⟩
          have hm : m < out.length := by have := HSL.out; omega
          obtain ⟨g', e, _, _, y0, _⟩ := HO.out.int hm
          simp only [Option.some.injEq, Addr.mk.injEq, and_true] at e
          subst e
          have HP : Hid (posD out x (m + 1) = posD out x m) := Lib.hid (by rw [posD, if_pos (by simpa using jx)])
          rw [Nat.add_sub_cancel, getD_lt _ _ _ hm] at jx
          have hmi : (m : Int) < (k : Int) := by omega
          have hmi0 : (0 : Int) ≤ (m : Int) := by omega
          generalize out[m] = y at *
          go_wp2
          go_round
          case rel => exact ⟨m, by omega, by go_num, Lib.hid (by rw [HJ.out, HP.out])⟩
          case measure => simp [intOf]
        · have HP : Hid (posL out x = j) := Lib.hid (by
            unfold posL
            rw [HSL.out, HJ.out]
            match j, hcc with
            | 0, _ => rfl
            | m + 1, hcc => rw [posD, if_neg (by intro hx; exact hcc ⟨by omega, by simpa using hx⟩)])
          have hx : (¬ (0 : Int) < (j : Int)) ∨ (∃ (m : Nat) (y : Int), wr.cell? ⟨g, m, none⟩ = some (.int .i64 y) ∧ ¬ x < y ∧ (0 : Int) < (j : Int) ∧ ((j : Int) - 1).toNat = m ∧ (0 : Int) ≤ (j : Int) - 1 ∧ (j : Int) - 1 < (k : Int) ∧ (1 : Int) ≤ (j : Int)) := by
            rcases Nat.eq_zero_or_pos j with h0 | h0
            · exact .inl (by omega)
            · right
              have hm : j - 1 < out.length := by have := HSL.out; omega
              obtain ⟨g', e, _, _, y0, _⟩ := HO.out.int hm
              simp only [Option.some.injEq, Addr.mk.injEq, and_true] at e
              subst e
              refine ⟨j - 1, out[j - 1], y0, fun hx => hcc ⟨h0, ?_⟩, by omega, by omega, by omega, by omega, by omega⟩
              rwa [getD_lt _ _ _ hm]
          have HF1 := Lib.hid (take_len out j (by have := HSL.out; omega))
          have hz0 : Own (wr.alloc (.cells #[] 3)) wr.heap.size (wr.heap.size + 1) 3 (some ⟨wr.heap.size, 0, none⟩) 0 (ints []) := Own.made wr wr.heap.size 3 #[] (Nat.le_refl _) (by simp)
          have HF2 := Lib.hid hz0
          have HOa := Lib.hid (HO.out.alloc (Nat.le_refl _) (.cells #[] 3))
          have HF3 := Lib.hid (Row.intTake HOa.out.row j)
          have hwz := hb.size
          have hjd : (j < d ∧ (j : Int) < (d : Int) ∧ ¬ (d = j) ∧ ¬ (j = d)) ∨ (j = k ∧ j = d) := by omega
          have HSJ : Hid (sortK zs (k + 1) = out.take j ++ x :: out.drop j) := Lib.hid (by rw [HS.out]; unfold insL; rw [HP.out])
          have HDL : Hid (k - j = (out.drop j).length) := Lib.hid (by rw [List.length_drop, HSL.out])
          have HRJ : Hid (k + 1 = (j + 1) + (k - j)) := Lib.hid (by omega)
          clear hz0 hcc HS HJ
          rcases hjd with ⟨hjd, hjd1, hjd2, hjd3⟩ | ⟨rfl, rfl⟩
          all_goals (rcases hx with hx | ⟨m, y, hy, hyx, hx1, hx2, hx3, hx4, hx5⟩)
          all_goals
            go_wp2_with (at_builtin; refine wpList_pushAny rfl (.tmp 30) (.tmp 33) rfl wr.heap.size (wr.heap.size + 1) wr.heap.size (some ⟨wr.heap.size, 0, none⟩) (some ⟨g, 0, none⟩) 0 0 j _ j [] (out.take j) rfl rfl rfl HF1.out (Nat.zero_add j).symm HF2.out HF3.out (by omega) (by simp) (by simp) ?_)
            intro A2 d2 w2 ho2 hg2
            have hs2 : wr.heap.size + 1 ≤ w2.heap.size := by simpa using hg2.size
            have HO2 := Lib.hid ho2
            have HP2 := Lib.hid (HOa.out.only hg2 (by simp) (.inl (Nat.le_refl _)))
            have hb2 := below_only (hb.alloc hwz (.cells #[] 3)) hg2 hwz (by simp; omega)
            have HA2 := Lib.hid (HO2.out.alloc (Nat.le_refl _) (.cells #[.int .i64 x] 3))
            have HP2a := Lib.hid (HP2.out.alloc (by omega) (.cells #[.int .i64 x] 3))
            clear ho2 hg2
            go_wp2_with (at_builtin; refine wpList_push rfl (.tmp 35) (.tmp 37) rfl wr.heap.size w2.heap.size A2 d2 j (out.take j) x w2.heap.size rfl rfl HF1.out HA2.out (by go_simp) (by omega) (by simp; omega) ?_)
            intro A3 d3 w3 ho3 hg3
            have hs3 : w2.heap.size + 1 ≤ w3.heap.size := by simpa using hg3.size
            have HO3 := Lib.hid ho3
            have HP3 := Lib.hid (HP2a.out.only hg3 (by simp; omega) (.inl (Nat.le_refl _)))
            have hb3 := below_only (hb2.alloc (by omega) (.cells #[.int .i64 x] 3)) hg3 hwz (by simp; omega)
            have HR3 := Lib.hid (HP3.out.row.dropAt (k := j))
            clear ho3 hg3
            go_wp2_with (at_builtin; refine wpList_pushAny rfl (.tmp 39) (.tmp 42) rfl wr.heap.size w3.heap.size wr.heap.size A3 _ d3 (j + 1) _ _ _ (out.take j ++ [x]) (out.drop j) rfl rfl (by rw [List.length_append, ← HF1.out]; rfl) (by first | exact HDL.out | (have := HDL.out; omega)) rfl HO3.out (by first | exact HR3.out | (simpa using HR3.out) | exact Row.empty _ (List.drop_eq_nil_of_le (by rw [HSL.out]; exact Nat.le_refl _))) (by omega) (by omega) (Nat.le_refl _) ?_)
            intro A4 d4 w4 ho4 hg4
            obtain ⟨g4, rfl, _⟩ := ho4.int (k := 0) (by simp; omega)
            have hb4 := below_only hb3 hg4 hwz (by omega)
            have hs4 := hg4.size
            have HO4 := Lib.hid (ho4.mono hwz (Nat.le_refl _))
            clear ho4 hg4
            go_wp2
            go_roundw
            case rel => first | exact ⟨k + 1, g4, d4, by omega, by go_num, slice_len (by omega), by rw [HSJ.out]; exact HO4.out, hb4⟩ | exact ⟨j + 1, g4, d4, by omega, by go_num, slice_len (by omega), by rw [HSJ.out]; exact HO4.out, hb4⟩
            case measure => simp [intOf]; omega
    · obtain rfl : k = zs.length := by omega
      have HR := Lib.hid hsl
      clear hsl
      go_wp2
      go_ret
      exact ⟨some ⟨g, 0, none⟩, d, ret_slice (by rw [sortL_length]), HO.out, hb⟩
end Go.Proofs.Ytaocjjocncoahaa
