/- The reference's StrongParts, walked. -/
import Derived.Test.YtboekpmaefcmdaaStrong
namespace Go.Proofs.Ytboekpmaefcmdaa
open Go.RowKit

def firstK (W : List Nat) (left k : Nat) : Nat := ofB k (fun a => left.testBit a && (rc W a == left))
theorem firstK_succ (W : List Nat) (left k : Nat) : firstK W left (k + 1) = firstK W left k + if (left.testBit k && (rc W k == left)) = true then 2 ^ k else 0 := rfl
theorem firstK_end (W : List Nat) (left : Nat) : firstK W left W.length = firstS W left := rfl
theorem firstK_lt (W : List Nat) (left k : Nat) : firstK W left k < 2 ^ k := ofB_lt _ _
theorem sp_step (W : List Nat) (hT : IsT W) (L : List Nat) (left : Nat) (h0 : left ≠ 0) (hC : Cl W left) (hl : left < 2 ^ W.length) (h : L ++ spL W left = spL W (2 ^ W.length - 1)) :
    (L ++ [firstS W left]) ++ spL W (left - firstS W left) = spL W (2 ^ W.length - 1) ∧ Cl W (left - firstS W left) ∧ left - firstS W left < 2 ^ W.length ∧ firstS W left ≤ left ∧ 0 < firstS W left ∧ L.length < (spL W (2 ^ W.length - 1)).length := by
  have h8 := pow_le8 W.length hT.h8
  obtain ⟨q1, q2, q3, q4⟩ := rest_ok hT hC hl
  have hs := spL_step hT hC hl h0
  obtain ⟨a, ha, hm, e⟩ := firstS_some hT hC hl h0
  have hf : (firstS W left).testBit a = true := by rw [firstS_bit, hm, e]; simp [ha]
  have hle := (sub_sets (s := left) (t := firstS W left) (by omega) (by have := firstS_lt (W := W) left; omega) (firstS_sub left)).2
  refine ⟨by rw [← h, hs]; simp, q1, q2, hle, ?_, ?_⟩
  · rcases Nat.eq_zero_or_pos (firstS W left) with e0 | e0
    · rw [e0] at hf; simp at hf
    · exact e0
  · rw [← h, hs]; simp
set_option maxHeartbeats 800000 in
theorem sStrongParts_any (A : Option Addr) (c : Nat) (s : Int) (zs : List Int) (w : World) (h : Row w w.heap.size A (ints zs)) (hl : zs.length ≤ 1099511627776) :
    Calls Try.prog 28 #[.agg #[.int .i64 s, .slice A zs.length c]] w (NewInts w 3 (rStrongParts s zs)) := by
  cases ho : okB s zs with
  | false =>
    have N : Hid (rStrongParts s zs = []) := Lib.hid (by unfold rStrongParts; rw [ho]; rfl)
    have HO := Lib.hid ho
    clear ho
    go_enter Try.func28, Try.ntmps28
    go_wp2_with fail
    refine (sTourOk_any A c s zs _ (h.rowAt (by go_grown) (Nat.le_refl _)) hl).mono ?_
    rw [HO.out]
    rintro e w1 ⟨rfl, hb⟩
    obtain ⟨k0, k1, hbw, hsz⟩ := box1 hb
    clear hb
    go_wp2
    go_ret
    exact newInts_none _ N.out hbw
  | true =>
    obtain ⟨W, rfl, rfl, hT⟩ := ok_tour ho
    have R : Hid (rStrongParts (W.length : Int) (casts W) = (casts (spL W (2 ^ W.length - 1)))) := Lib.hid (by unfold rStrongParts; rw [ho, toW_casts]; rfl)
    have g1 := hT.h1
    have g8 := hT.h8
    rw [casts_length]
    rw [R.out]
    clear R
    clear ho hl
    go_enter Try.func28, Try.ntmps28
    go_wp2_with fail
    refine (sTourOkW A c W _ hT (h.rowAt (by go_grown) (Nat.le_refl _))).mono ?_
    rintro e w1 ⟨rfl, hb⟩
    obtain ⟨k0, k1, hbw, hsz⟩ := box1 hb
    have h := h.rowAt hbw (Nat.le_refl _)
    clear hb
    have h256 := pow_le8 W.length g8
    have HPN := Lib.hid (pow_cast W.length)
    have hsl := spL_le W hT
    have d0 := (World.cell?_alloc_lt w1 (.cells #[] 3) ⟨w.heap.size, 0, none⟩ (by show w.heap.size < _; omega)).trans k0
    have d1 := (World.cell?_alloc_lt w1 (.cells #[] 3) ⟨w.heap.size, 1, none⟩ (by show w.heap.size < _; omega)).trans k1
    go_wp2_with fail
    clear d0 d1
    obtain ⟨w2, hw2⟩ : ∃ w2, w2 = w1.alloc (.cells #[] 3) := ⟨_, rfl⟩
    rw [← hw2]
    have hb2 : Below w1.heap.size w1 w2 := by rw [hw2]; go_grown
    have HE0 : Hid (Own w2 w1.heap.size w2.heap.size 3 (some ⟨w1.heap.size, 0, none⟩) 0 (ints (casts []))) := Lib.hid (by
      have hm := Own.made w1 w1.heap.size 3 #[] (Nat.le_refl _) (by simp)
      rw [hw2]
      exact hm.mono (Nat.le_refl _) (by simp))
    clear hw2
    refine (l02All_any A c W.length _ g1 g8).mono ?_
    rintro e w3 ⟨rfl, hb3⟩
    have hb13 := below_trans hb2 hb3
    have HE1 := Lib.hid ((HE0.out.below hb3 (Nat.le_refl _)).mono (Nat.le_refl _) hb3.size)
    clear HE0
    go_wp2
    go_loopw [3, 4] (fun v lf wr => ∃ (left : Nat) (L : List Nat) (B : Option Addr) (d : Nat), left < 2 ^ W.length ∧ lf = .int .i64 (left : Int) ∧ v = .slice B L.length d ∧ Hid (L ++ spL W left = spL W (2 ^ W.length - 1)) ∧ Hid (Cl W left) ∧ Own wr w1.heap.size wr.heap.size 3 B d (ints (casts L)) ∧ Below w1.heap.size w1 wr) (fun _ lf _ => (intOf lf).toNat)
    case atStart => exact ⟨2 ^ W.length - 1, [], _, 0, by have := Nat.two_pow_pos W.length; omega, by congr 1; have := HPN.out; have := Nat.two_pow_pos W.length; omega, rfl, Lib.hid rfl, Lib.hid (cl_all hT), HE1.out, hb13⟩
    case round =>
      clear HE1
      obtain ⟨left, L, B, d, hlf, rfl, rfl, HL, HCl, ho, hb⟩ := hrel
      obtain ⟨c0, c1⟩ := held_at k0 k1 hb
      have HO := Lib.hid ho
      clear ho
      by_cases hl0 : 0 < left
      · have HS := Lib.hid (sp_step W hT L left (by omega) HCl.out hlf HL.out)
        go_wp2
        obtain ⟨wo, rfl⟩ : ∃ wo : World, wo = wr := ⟨_, rfl⟩
        go_loopw [5, 18] (fun v i wr => ∃ k : Nat, k ≤ W.length ∧ i = .int .i64 (k : Int) ∧ v = .int .i64 (firstK W left k : Nat) ∧ Below wo.heap.size wo wr) (fun _ i _ => W.length - (intOf i).toNat)
        case atStart => exact ⟨0, Nat.zero_le _, rfl, rfl, Below.refl _ _⟩
        case round =>
          obtain ⟨k, hk, rfl, rfl, hbi⟩ := hrel
          have hbX := below_trans hb hbi
          obtain ⟨c0, c1⟩ := held_at k0 k1 hbX
          by_cases hlt : k < W.length
          · have HBT := Lib.hid (bit_test left k (by omega))
            have e0 : (0 : Int) ≤ (left : Int) / 2 ^ k := by rw [shr_nat]; exact Int.natCast_nonneg _
            have HFS := Lib.hid (firstK_succ W left k)
            have hfl : firstK W left k < 256 := Nat.lt_of_lt_of_le (firstK_lt W left k) (pow_le8 k (by omega))
            obtain ⟨r1, r2⟩ := pow_small k (by omega)
            have HPK := Lib.hid (pow_cast k)
            have HC := Lib.hid (fun W' hr => l05Reach_any A c W k W' hT hr hlt)
            cases hb9 : left.testBit k with
            | false =>
              have et := HBT.out
              rw [hb9] at et
              have HN : Hid (firstK W left (k + 1) = firstK W left k) := Lib.hid (by rw [HFS.out, hb9]; simp)
              clear hb9
              go_wp2
              go_roundw
              case rel => exact ⟨k + 1, by omega, by go_num, by rw [HN.out], hbi⟩
              case measure => simp [intOf]; omega
            | true =>
              have et := HBT.out
              rw [hb9] at et
              by_cases e9 : rc W k = left
              · have HN : Hid (firstK W left (k + 1) = firstK W left k + 2 ^ k) := Lib.hid (by rw [HFS.out, hb9, e9]; simp)
                have HR := Lib.hid e9
                have eq9 : ((left : Int) == (left : Int)) = true := by simp
                clear hb9 e9
                go_wp2_with fail
                refine (HC.out _ (h.rowAt hbX (Nat.le_refl _))).mono ?_
                rw [HR.out]
                rintro e wq ⟨rfl, hbq⟩
                go_wp2
                go_roundw
                case rel => exact ⟨k + 1, by omega, by go_num, by rw [HN.out]; have := HPK.out; first | (congr 1; done) | (congr 1; omega), below_trans hbi hbq⟩
                case measure => simp [intOf]; omega
              · have HN : Hid (firstK W left (k + 1) = firstK W left k) := Lib.hid (by rw [HFS.out, hb9]; simp [e9])
                generalize rc W k = r at *
                have eq9 : ((r : Int) == (left : Int)) = false := by rw [beq_eq_false_iff_ne]; omega
                clear hb9 e9
                go_wp2_with fail
                refine (HC.out _ (h.rowAt hbX (Nat.le_refl _))).mono ?_
                rintro e wq ⟨rfl, hbq⟩
                go_wp2
                go_roundw
                case rel => exact ⟨k + 1, by omega, by go_num, by rw [HN.out], below_trans hbi hbq⟩
                case measure => simp [intOf]; omega
          · obtain rfl : k = W.length := by omega
            rw [firstK_end]
            have hs4 : firstS W left ≤ left ∧ 0 < firstS W left := ⟨HS.out.2.2.2.1, HS.out.2.2.2.2.1⟩
            have hlen := HS.out.2.2.2.2.2
            have HS' := Lib.hid (And.intro HS.out.1 (And.intro HS.out.2.1 HS.out.2.2.1))
            have hx := hs4.1
            have hx0 := hs4.2
            have EV := Lib.hid (show ((left : Int) - (firstS W left : Nat)) = ((left - firstS W left : Nat) : Int) by omega)
            clear HS hs4
            generalize firstS W left = z at *
            have HO2 := Lib.hid ((HO.out.below hbi (Nat.le_refl _)).mono (Nat.le_refl _) hbi.size)
            go_wp2_with (at_builtin; refine wpList_push rfl (.tmp 38) (.tmp 40) rfl w1.heap.size wr.heap.size B d L.length (casts L) (z : Int) wr.heap.size rfl rfl ?c1 ?c2 ?c3 (by omega) ?c4 ?_)
            case c1 => rw [casts_length]
            case c2 => exact HO2.out.alloc (Nat.le_refl _) _
            case c3 => go_simp
            case c4 => have := hbX.size; simp; omega
            intro A2 c2 w4 ho4 hg4
            have HO4 := Lib.hid ho4
            have hb4 := below_only (hbX.alloc hbX.size (.cells #[.int .i64 (z : Int)] 3)) hg4 (Nat.le_refl _) (by have := hbX.size; simp; omega)
            clear ho4 hg4
            go_wp2
            go_roundw
            case rel => exact ⟨left - z, L ++ [z], A2, c2, HS'.out.2.2, by first | rfl | (congr 1; done) | (congr 1; exact EV.out), slice_len' (by simp), Lib.hid HS'.out.1, Lib.hid HS'.out.2.1, by rw [casts_append]; exact HO4.out, hb4⟩
            case measure => simp [intOf]; omega
      · obtain rfl : left = 0 := by omega
        have HE : Hid (L = spL W (2 ^ W.length - 1)) := Lib.hid (by rw [← HL.out, spL_zero, List.append_nil])
        have hz1 := hbw.size
        have HOm := Lib.hid (HO.out.mono hz1 (Nat.le_refl _))
        go_wp2
        go_ret
        rw [← HE.out]
        exact ⟨B, d, ret_slice (by rw [casts_length]), HOm.out, hbw.trans (hb.mono hz1)⟩
end Go.Proofs.Ytboekpmaefcmdaa
