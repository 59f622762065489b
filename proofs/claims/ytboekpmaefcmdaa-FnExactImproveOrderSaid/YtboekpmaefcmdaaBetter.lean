/- l08Better, walked. -/
import Derived.Test.YtboekpmaefcmdaaMove
import Derived.Test.YtboekpmaefcmdaaImproved
namespace Go.Proofs.Ytboekpmaefcmdaa
open Go.RowKit

def BetRes (w : World) (o : Option (List Int)) (e : Ending) (w' : World) : Prop :=
  (o = none ∧ e = .returned (.tuple #[.slice none 0 0, .bool false]) ∧ Below w.heap.size w w') ∨
  ∃ L g c, o = some L ∧ e = .returned (.tuple #[.slice (some ⟨g, 0, none⟩) L.length c, .bool true]) ∧ Own w' w.heap.size w'.heap.size 3 (some ⟨g, 0, none⟩) c (ints L) ∧ Below w.heap.size w w'
theorem l08CountN (A : Option Addr) (c : Nat) (W : List Nat) (A' : Option Addr) (c' : Nat) (os : List Int) (w : World) (hT : IsT W) (h : Row w w.heap.size A (ints (casts W))) (h' : Row w w.heap.size A' (ints os)) (hl : os.length = W.length) (hob : orderB os = true) (hc' : W.length ≤ c') (hm : c' ≤ maxLen) :
    Calls Try.prog 110 #[.agg #[.int .i64 (W.length : Int), .slice A W.length c], .slice A' W.length c'] w fun e w' => e = .returned (.int .i64 (revs W os : Nat)) ∧ Below w.heap.size w w' := by
  have hx := l08Count_any A c W A' c' os w hT h h' (by have := hT.h8; omega) (by omega) hm (fun i hi => by
    rw [getD_lt _ _ _ hi]
    have hf := (orderB_facts os hob).1 i hi
    omega)
  rw [hl] at hx
  exact hx
set_option maxHeartbeats 1600000 in
theorem l08Better_any (A : Option Addr) (c : Nat) (W : List Nat) (A' : Option Addr) (c' : Nat) (os : List Int) (w : World) (hT : IsT W) (h : Row w w.heap.size A (ints (casts W))) (h' : Row w w.heap.size A' (ints os)) (hol : os.length = W.length) (hob : orderB os = true) (hc' : W.length ≤ c') (hm : c' ≤ maxLen) :
    Calls Try.prog 63 #[.agg #[.int .i64 (W.length : Int), .slice A W.length c], .slice A' W.length c'] w (BetRes w (nxt W os)) := by
  have g1 := hT.h1
  have g8 := hT.h8
  obtain ⟨bo, oo, rfl, hbo, -⟩ := h'.int (k := 0) (by omega)
  have HOL := Lib.hid hol
  have HOB := Lib.hid hob
  have HM := Lib.hid hm
  clear hol hob hm
  go_enter Try.func63, Try.ntmps63
  go_wp2
  obtain ⟨w1, hw1⟩ : ∃ w1, w1 = w.alloc (.cells #[.int .i64 (W.length : Int), .slice A W.length c] 27) := ⟨_, rfl⟩
  rw [← hw1]
  have k0 : w1.cell? ⟨w.heap.size, 0, none⟩ = some (.int .i64 (W.length : Int)) := by rw [hw1]; go_simp
  have k1 : w1.cell? ⟨w.heap.size, 1, none⟩ = some (.slice A W.length c) := by rw [hw1]; go_simp
  have hbw : Below w.heap.size w w1 := by rw [hw1]; go_grown
  have h := h.rowAt hbw (Nat.le_refl _)
  have h' := h'.rowAt hbw (Nat.le_refl _)
  clear hw1
  go_loopw [11] (fun v wr => ∃ i : Nat, i ≤ W.length ∧ v = .int .i64 (i : Int) ∧ Hid (∀ i', i' < i → ∀ k', k' < os.length → betB W os i' k' = false) ∧ Below w1.heap.size w1 wr) (fun v _ => W.length - (intOf v).toNat)
  case atStart => exact ⟨0, Nat.zero_le _, rfl, Lib.hid (fun i hi => absurd hi (Nat.not_lt_zero _)), Below.refl _ _⟩
  case round =>
    obtain ⟨i, hi, rfl, HN, hb⟩ := hrel
    by_cases hlt : i < W.length
    · have hio : i < os.length := by have := HOL.out; omega
      have HML := Lib.hid (fun k (hk : k < os.length) => mvL_length os i k hio hk)
      have HMO := Lib.hid (fun k => mvL_order os i k hio HOB.out)
      go_wp2
      obtain ⟨wo, rfl⟩ : ∃ wo : World, wo = wr := ⟨_, rfl⟩
      go_loopw [16] (fun v wr => ∃ k : Nat, k ≤ W.length ∧ v = .int .i64 (k : Int) ∧ Hid (∀ k', k' < k → betB W os i k' = false) ∧ Below w1.heap.size w1 wr) (fun v _ => W.length - (intOf v).toNat)
      case atStart => exact ⟨0, Nat.zero_le _, rfl, Lib.hid (fun k hk => absurd hk (Nat.not_lt_zero _)), hb⟩
      case round =>
        obtain ⟨k, hk, rfl, HK, hbX⟩ := hrel
        by_cases hltk : k < W.length
        · have hko : k < os.length := by have := HOL.out; omega
          have HM2 := Lib.hid ((HML.out k hko).trans HOL.out)
          have HMV := Lib.hid (by
            have hx := l08Move_any bo oo c' i k os wr (h'.rowAt hbX (Nat.le_refl _)) hio hko (by have := HOL.out; omega) (by have := HOL.out; omega) (by have := HM.out; unfold maxLen at this; omega)
            rw [HOL.out] at hx
            exact hx : Calls Try.prog 109 #[.slice (some ⟨bo, oo, none⟩) W.length c', .int .i64 (i : Int), .int .i64 (k : Int)] wr (NewInts wr 3 (mvL os i k)))
          go_wp2_with fail
          refine HMV.out.mono ?_
          rintro e w5 ⟨B5, d5, rfl, ho5, hb5⟩
          rw [HM2.out]
          have hbY := below_trans hbX hb5
          obtain ⟨g5, rfl, -⟩ := ho5.int (k := 0) (by rw [HM2.out]; omega)
          obtain ⟨c0, c1⟩ := held_at k0 k1 hbY
          have HO5 := Lib.hid ho5
          have HC5 := Lib.hid (by have := ho5.cap.1; rw [ints_length, HM2.out] at this; exact this : W.length ≤ d5)
          have HD5 : Hid (d5 ≤ maxLen) := Lib.hid ho5.cap.2
          have hR5 : Row w5 w5.heap.size (some ⟨g5, 0, none⟩) (ints (mvL os i k)) := ho5.row
          have HG1 := Lib.hid (fun W' hr1 hr2 => l08CountN A c W (some ⟨g5, 0, none⟩) d5 (mvL os i k) W' hT hr1 hr2 HM2.out (HMO.out k) HC5.out HD5.out)
          have HG2 := Lib.hid (fun W' hr1 hr2 => l08CountN A c W (some ⟨bo, oo, none⟩) c' os W' hT hr1 hr2 HOL.out HOB.out hc' HM.out)
          have HBE : Hid (betB W os i k = decide (revs W (mvL os i k) < revs W os)) := Lib.hid rfl
          have HMT : Hid (betB W os i k = true → nxt W os = some (mvL os i k)) := Lib.hid (fun hbt => nxt_at W os i k hio hko hbt HN.out HK.out)
          have hh := h.rowAt hbY (Nat.le_refl _)
          have hh' := h'.rowAt hbY (Nat.le_refl _)
          have hv : Below w5.heap.size w5 w5 := Below.refl _ _
          generalize mvL os i k = os2 at *
          generalize revs W os2 = r1 at *
          generalize revs W os = r2 at *
          clear ho5
          go_wp2
          go_region_held3 (fun w' => Below w5.heap.size w5 w' ∧ w'.cell? ⟨w.heap.size, 0, none⟩ = some (.int .i64 (W.length : Int)) ∧ w'.cell? ⟨w.heap.size, 1, none⟩ = some (.slice A W.length c))
            (first | exact ⟨hv, c0, c1⟩ | exact ⟨hv.drew, c0, c1⟩)
            (first
              | (go_at_call 110; (with_reducible refine (HG1.out _ (hh.rowAt (by first | exact hv | exact hv.drew) (Nat.le_refl _)) (hR5.rowAt (by first | exact hv | exact hv.drew) (Nat.le_refl _))).mono ?_); rintro e wv ⟨rfl, hbv⟩; obtain ⟨hv, c0, c1⟩ : Below w5.heap.size w5 wv ∧ wv.cell? ⟨w.heap.size, 0, none⟩ = some (.int .i64 (W.length : Int)) ∧ wv.cell? ⟨w.heap.size, 1, none⟩ = some (.slice A W.length c) := (by first | exact im_next ⟨hv, c0, c1⟩ hbv | exact im_next ⟨hv.drew, c0, c1⟩ hbv))
              | (go_at_call 110; (with_reducible refine (HG2.out _ (hh.rowAt (by first | exact hv | exact hv.drew) (Nat.le_refl _)) (hh'.rowAt (by first | exact hv | exact hv.drew) (Nat.le_refl _))).mono ?_); rintro e wv ⟨rfl, hbv⟩; obtain ⟨hv, c0, c1⟩ : Below w5.heap.size w5 wv ∧ wv.cell? ⟨w.heap.size, 0, none⟩ = some (.int .i64 (W.length : Int)) ∧ wv.cell? ⟨w.heap.size, 1, none⟩ = some (.slice A W.length c) := (by first | exact im_next ⟨hv, c0, c1⟩ hbv | exact im_next ⟨hv.drew, c0, c1⟩ hbv)))
          all_goals
            by_cases hlr : r1 < r2
            · have HT := Lib.hid (HMT.out (HBE.out.trans (decide_eq_true hlr)))
              have hlr2 : (r1 : Int) < (r2 : Int) := by omega
              have hz9 := hbY.size
              have hz8 := hbw.size
              have hz7 := hbX.size
              have HO6 := Lib.hid ((HO5.out.below hv (Nat.le_refl _)).mono (lo' := w.heap.size) (by omega) hv.size)
              have hbZ := below_trans hbw (below_trans hbY hv)
              clear hlr
              go_wp2
              refine bodyPost_ret (v := .tuple #[.slice (some ⟨g5, 0, none⟩) W.length d5, .bool true]) (by simp [results, Try.results63, go_sem]) rfl ?_
              exact .inr ⟨os2, g5, d5, HT.out, by rw [HM2.out], HO6.out, hbZ⟩
            · have HF : Hid (betB W os i k = false) := Lib.hid (HBE.out.trans (decide_eq_false hlr))
              have hlr2 : ¬ ((r1 : Int) < (r2 : Int)) := by omega
              have HK2 := Lib.hid (fun k' (hk' : k' < k + 1) => (by
                by_cases e : k' = k
                · subst e; exact HF.out
                · exact HK.out k' (by omega) : betB W os i k' = false))
              clear hlr
              go_wp2
              go_roundw
              case rel => exact ⟨k + 1, by omega, by go_num, HK2, below_trans hbY hv⟩
              case measure => simp [intOf]; omega
        · obtain rfl : k = W.length := by omega
          have HN2 := Lib.hid (fun i' (hi' : i' < i + 1) k' (hk' : k' < os.length) => (by
            by_cases e : i' = i
            · subst e; exact HK.out k' (by have := HOL.out; omega)
            · exact HN.out i' (by omega) k' hk' : betB W os i' k' = false))
          go_wp2
          go_roundw
          case rel => exact ⟨i + 1, by omega, by go_num, HN2, hbX⟩
          case measure => simp [intOf]; omega
    · obtain rfl : i = W.length := by omega
      have HX := Lib.hid (nxt_none W os (fun i hi k hk => HN.out i (by have := HOL.out; omega) k hk))
      go_wp2
      refine bodyPost_ret (v := .tuple #[.slice none 0 0, .bool false]) (by simp [results, Try.results63, go_sem]) rfl ?_
      exact .inl ⟨HX.out, rfl, below_trans hbw hb⟩
end Go.Proofs.Ytboekpmaefcmdaa
