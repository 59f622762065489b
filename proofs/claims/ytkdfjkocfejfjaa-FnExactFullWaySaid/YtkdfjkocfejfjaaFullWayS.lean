/- The reference's FullWay, walked. -/
import Derived.Test.YtkdfjkocfejfjaaFullWay
namespace Go.Proofs.Ytkdfjkocfejfjaa
open Go.RowKit

theorem fs_next {w1 w' wq : World} {g g2 a : Nat} {v0 v1 x0 : Value} (h : Below w1.heap.size w1 w' ∧ w'.cell? ⟨g, 0, none⟩ = some v0 ∧ w'.cell? ⟨g, 1, none⟩ = some v1 ∧ w'.cell? ⟨g2, a, none⟩ = some x0) (hq : Below w'.heap.size w' wq) :
    Below w1.heap.size w1 wq ∧ wq.cell? ⟨g, 0, none⟩ = some v0 ∧ wq.cell? ⟨g, 1, none⟩ = some v1 ∧ wq.cell? ⟨g2, a, none⟩ = some x0 := by
  obtain ⟨h0, h1, h2, h3⟩ := h
  have l1 := World.block_lt_of_cell? _ _ h1
  have l3 := World.block_lt_of_cell? _ _ h3
  exact ⟨below_trans h0 hq, (hq.cell (p := ⟨g, 0, none⟩) l1).trans h1, (hq.cell (p := ⟨g, 1, none⟩) l1).trans h2, (hq.cell (p := ⟨g2, a, none⟩) l3).trans h3⟩
theorem posW_hit (W : List Nat) (a : Nat) (out : List Int) (j : Nat) (hj : j < out.length) (h : bt W a out[j].toNat = true) (hn : ∀ i (hi : i < out.length), i < j → bt W a out[i].toNat = false) : posW W a out = j := by
  unfold posW
  rw [List.findIdx_eq hj]
  exact ⟨h, fun i hi => by simp [hn i (by omega) hi]⟩
theorem cell_one (w : World) (v : Value) (t : TypeId) : (w.alloc (.cells #[v] t)).cell? ⟨w.heap.size, 0, none⟩ = some v := by go_simp
theorem posW_miss (W : List Nat) (a : Nat) (out : List Int) (n : Nat) (hl : out.length = n) (hn : ∀ i (hi : i < out.length), i < n → bt W a out[i].toNat = false) : posW W a out = n := by
  subst hl
  unfold posW
  rw [List.findIdx_eq_length]
  intro x hx
  obtain ⟨i, hi, rfl⟩ := List.mem_iff_getElem.1 hx
  exact hn i hi hi
theorem fw_more {W : List Nat} {a : Nat} {out : List Int} {j : Nat} (hn : ∀ i (hi : i < out.length), i < j → bt W a out[i].toNat = false) (hj : j < out.length) (h : bt W a out[j].toNat = false) :
    ∀ i (hi : i < out.length), i < j + 1 → bt W a out[i].toNat = false := fun i hi hij => by
  by_cases e : i = j
  · subst e; exact h
  · exact hn i hi (by omega)
set_option maxHeartbeats 3200000 in
theorem sFullWay_any (A : Option Addr) (c : Nat) (s : Int) (zs : List Int) (w : World) (h : Row w w.heap.size A (ints zs)) (hl : zs.length ≤ 1099511627776) :
    Calls Try.prog 41 #[.agg #[.int .i64 s, .slice A zs.length c]] w (NewInts w 3 (rFullWay s zs)) := by
  cases ho : okB s zs with
  | false =>
    have N : Hid (rFullWay s zs = []) := Lib.hid (by unfold rFullWay; rw [ho]; rfl)
    have HO := Lib.hid ho
    clear ho
    go_enter Try.func41, Try.ntmps41
    go_wp2_with fail
    refine (sTourOk_any A c s zs _ (h.rowAt (by go_grown) (Nat.le_refl _)) hl).mono ?_
    rw [HO.out]
    rintro e w1 ⟨rfl, hb⟩
    obtain ⟨k0, k1, hbw, hsz⟩ := box1 hb
    clear hb
    go_wp2
    go_ret
    exact newInts_none _ N.out hbw
  | true =>
    obtain ⟨W, rfl, rfl, hT⟩ := ok_tour ho
    have R : Hid (rFullWay (W.length : Int) (casts W) = (fwL W W.length)) := Lib.hid (by unfold rFullWay; rw [ho, toW_casts]; rfl)
    have g1 := hT.h1
    have g8 := hT.h8
    rw [casts_length]
    rw [R.out]
    clear R
    clear ho hl
    go_enter Try.func41, Try.ntmps41
    go_wp2_with fail
    refine (sTourOkW A c W _ hT (h.rowAt (by go_grown) (Nat.le_refl _))).mono ?_
    rintro e w1 ⟨rfl, hb⟩
    obtain ⟨k0, k1, hbw, hsz⟩ := box1 hb
    have h := h.rowAt hbw (Nat.le_refl _)
    clear hb
    have d0 := (World.cell?_alloc_lt w1 (.cells #[] 3) ⟨w.heap.size, 0, none⟩ (by show w.heap.size < _; omega)).trans k0
    have d1 := (World.cell?_alloc_lt w1 (.cells #[] 3) ⟨w.heap.size, 1, none⟩ (by show w.heap.size < _; omega)).trans k1
    go_wp2_with fail
    clear d0 d1
    go_loopw [3, 14] (fun v i wr => ∃ (k g d : Nat), k ≤ W.length ∧ i = .int .i64 (k : Int) ∧ v = .slice (some ⟨g, 0, none⟩) k d ∧ Own wr w1.heap.size wr.heap.size 3 (some ⟨g, 0, none⟩) d (ints (fwL W k)) ∧ Below w1.heap.size w1 wr) (fun _ i _ => W.length - (intOf i).toNat)
    case atStart => exact ⟨0, w1.heap.size, 0, Nat.zero_le _, rfl, rfl, (Own.made w1 w1.heap.size 3 #[] (Nat.le_refl _) (by simp)).mono (Nat.le_refl _) (by simp), (Below.refl _ _).alloc (Nat.le_refl _) _⟩
    case round =>
      obtain ⟨k, g, d, hk, rfl, rfl, ho, hb⟩ := hrel
      have hsl := fwL_length W k
      have hkd : k ≤ d := by have := ho.cap.1; rw [ints_length, hsl] at this; exact this
      have hdm : d ≤ 9223372036854775807 := by have := ho.cap.2; unfold maxLen at this; exact this
      have HO := Lib.hid ho
      clear ho
      by_cases hlt : k < W.length
      · have HS : Hid (fwL W (k + 1) = insAt (fwL W k) (posW W k (fwL W k)) (k : Int)) := Lib.hid rfl
        have HM := Lib.hid (fun z hz => (by obtain ⟨v, hv, e⟩ := fwL_mem W k z hz; exact ⟨v, by omega, e⟩ : ∃ v : Nat, v < W.length ∧ z = (v : Int)))
        have HSL := Lib.hid hsl
        clear hsl
        generalize fwL W k = out at HO HS HSL HM
        go_wp2
        obtain ⟨wo, rfl⟩ : ∃ wo : World, wo = wr := ⟨_, rfl⟩
        go_loopw [5] (fun v wr => ∃ j : Nat, j ≤ k ∧ v = .int .i64 (j : Int) ∧ Hid (∀ i (hi : i < out.length), i < j → bt W k out[i].toNat = false) ∧ Below wo.heap.size wo wr) (fun v _ => k - (intOf v).toNat)
        case atStart => exact ⟨0, Nat.zero_le _, rfl, Lib.hid (fun i _ hi => absurd hi (Nat.not_lt_zero _)), Below.refl _ _⟩
        case round =>
          obtain ⟨j, hj, rfl, HN, hbi⟩ := hrel
          have hbx := below_trans hb hbi
          obtain ⟨c0, c1⟩ := held_at k0 k1 hbx
          have HOx := Lib.hid ((HO.out.below hbi (Nat.le_refl _)).mono (Nat.le_refl _) hbi.size)
          by_cases hjk : j < k
          · have hjo : j < out.length := by have := HSL.out; omega
            obtain ⟨g', e, _, _, x0, _⟩ := HOx.out.int hjo
            simp only [Option.some.injEq, Addr.mk.injEq, and_true] at e
            subst e
            obtain ⟨v, hv, hvo⟩ := HM.out _ (List.getElem_mem hjo)
            rw [hvo] at x0
            have HBV := Lib.hid (show bt W k out[j].toNat = bt W k v by rw [hvo, Int.toNat_natCast])
            have HV := Lib.hid hvo
            clear hvo
            have hji : (j : Int) < (k : Int) := by omega
            have hji0 : (0 : Int) ≤ (j : Int) := by omega
            have HC := Lib.hid (fun (t : Bool) (ht : bt W k v = t) W' hr => l02BeatsW_any A c W k v t ht W' hT hr hlt hv)
            have hv9 : Below wr.heap.size wr wr := Below.refl _ _
            cases hbt : bt W k v with
            | false =>
              have HN2 := Lib.hid (fw_more HN.out hjo (HBV.out.trans hbt))
              have HBT := Lib.hid hbt
              clear hbt
              go_wp2
              go_region_held3 (fun w' => Below wr.heap.size wr w' ∧ w'.cell? ⟨w.heap.size, 0, none⟩ = some (.int .i64 (W.length : Int)) ∧ w'.cell? ⟨w.heap.size, 1, none⟩ = some (.slice A W.length c) ∧ w'.cell? ⟨g, j, none⟩ = some (.int .i64 (v : Int)))
                (first | exact ⟨hv9, c0, c1, x0⟩ | exact ⟨hv9.drew, c0, c1, x0⟩)
                ((go_at_call 60; refine (HC.out false HBT.out _ (h.rowAt (below_trans hbx (by first | exact hv9 | exact hv9.drew)) (Nat.le_refl _))).mono ?_; rintro e wv ⟨rfl, hbv⟩; obtain ⟨hv9, c0, c1, x0⟩ : Below wr.heap.size wr wv ∧ wv.cell? ⟨w.heap.size, 0, none⟩ = some (.int .i64 (W.length : Int)) ∧ wv.cell? ⟨w.heap.size, 1, none⟩ = some (.slice A W.length c) ∧ wv.cell? ⟨g, j, none⟩ = some (.int .i64 (v : Int)) := (by first | exact fs_next ⟨hv9, c0, c1, x0⟩ hbv | exact fs_next ⟨hv9.drew, c0, c1, x0⟩ hbv)))
              go_wp2
              go_roundw
              case rel => exact ⟨j + 1, by omega, by go_num, HN2, below_trans hbi hv9⟩
              case measure => simp [intOf]; omega
            | true =>
              have HP := Lib.hid (posW_hit W k out j hjo (HBV.out.trans hbt) HN.out)
              have HBT := Lib.hid hbt
              clear hbt
              go_wp2
              go_region_held3 (fun w' => Below wr.heap.size wr w' ∧ w'.cell? ⟨w.heap.size, 0, none⟩ = some (.int .i64 (W.length : Int)) ∧ w'.cell? ⟨w.heap.size, 1, none⟩ = some (.slice A W.length c) ∧ w'.cell? ⟨g, j, none⟩ = some (.int .i64 (v : Int)))
                (first | exact ⟨hv9, c0, c1, x0⟩ | exact ⟨hv9.drew, c0, c1, x0⟩)
                ((go_at_call 60; refine (HC.out true HBT.out _ (h.rowAt (below_trans hbx (by first | exact hv9 | exact hv9.drew)) (Nat.le_refl _))).mono ?_; rintro e wv ⟨rfl, hbv⟩; obtain ⟨hv9, c0, c1, x0⟩ : Below wr.heap.size wr wv ∧ wv.cell? ⟨w.heap.size, 0, none⟩ = some (.int .i64 (W.length : Int)) ∧ wv.cell? ⟨w.heap.size, 1, none⟩ = some (.slice A W.length c) ∧ wv.cell? ⟨g, j, none⟩ = some (.int .i64 (v : Int)) := (by first | exact fs_next ⟨hv9, c0, c1, x0⟩ hbv | exact fs_next ⟨hv9.drew, c0, c1, x0⟩ hbv)))
              have hbx := below_trans hbx hv9
              have HOx := Lib.hid ((HOx.out.below hv9 (Nat.le_refl _)).mono (Nat.le_refl _) hv9.size)
              clear hv9 hbv x0 hji hji0 hb hbi
              have HF1 := Lib.hid (take_len out j (by have := HSL.out; omega))
              have hz0 : Own (wv.alloc (.cells #[] 3)) wv.heap.size (wv.heap.size + 1) 3 (some ⟨wv.heap.size, 0, none⟩) 0 (ints []) := Own.made wv wv.heap.size 3 #[] (Nat.le_refl _) (by simp)
              have HF2 := Lib.hid hz0
              have HOa := Lib.hid (HOx.out.alloc (Nat.le_refl _) (.cells #[] 3))
              have HF3 := Lib.hid (Row.intTake HOa.out.row j)
              have hwz := hbx.size
              have hjd : j < d ∧ (j : Int) < (d : Int) ∧ ¬ (d = j) ∧ ¬ (j = d) := by omega
              have HSJ : Hid (fwL W (k + 1) = out.take j ++ (k : Int) :: out.drop j) := Lib.hid (by rw [HS.out, HP.out]; rfl)
              have HDL : Hid (k - j = (out.drop j).length) := Lib.hid (by rw [List.length_drop, HSL.out])
              have d0 : ∀ o, (wv.alloc o).cell? ⟨w.heap.size, 0, none⟩ = some (.int .i64 (W.length : Int)) := fun o => (World.cell?_alloc_lt wv o _ (World.block_lt_of_cell? _ _ c0)).trans c0
              clear hz0 HS HP c0 c1 d0
              obtain ⟨hjd, hjd1, hjd2, hjd3⟩ := hjd
              all_goals
                go_wp2_with (at_builtin; refine wpList_pushAny rfl (.tmp 33) (.tmp 36) rfl wv.heap.size (wv.heap.size + 1) wv.heap.size (some ⟨wv.heap.size, 0, none⟩) (some ⟨g, 0, none⟩) 0 0 j _ j [] (out.take j) rfl rfl rfl HF1.out (Nat.zero_add j).symm HF2.out HF3.out (by omega) (by simp) (by simp) ?_)
                intro A2 d2 w2 ho2 hg2
                have hs2 : wv.heap.size + 1 ≤ w2.heap.size := by simpa using hg2.size
                have HO2 := Lib.hid ho2
                have HP2 := Lib.hid (HOa.out.only hg2 (by simp) (.inl (Nat.le_refl _)))
                have hb2 := below_only (hbx.alloc hwz (.cells #[] 3)) hg2 hwz (by simp; omega)
                clear ho2 hg2
                go_wp2_with (at_builtin; refine wpList_push rfl (.tmp 38) (.tmp 40) rfl wv.heap.size w2.heap.size A2 d2 j (out.take j) _ w2.heap.size rfl rfl HF1.out (HO2.out.alloc (Nat.le_refl _) _) (cell_one _ _ _) (by omega) (by simp; omega) ?_)
                intro A3 d3 w3 ho3 hg3
                have hs3 : w2.heap.size + 1 ≤ w3.heap.size := by simpa using hg3.size
                have HO3 := Lib.hid ho3
                have HP3 := Lib.hid ((HP2.out.alloc (by omega) _).only hg3 (by simp; omega) (.inl (Nat.le_refl _)))
                have hb3 := below_only (hb2.alloc (by omega) _) hg3 hwz (by simp; omega)
                have HR3 := Lib.hid (HP3.out.row.dropAt (k := j))
                clear ho3 hg3
                go_wp2_with (at_builtin; refine wpList_pushAny rfl (.tmp 42) (.tmp 45) rfl wv.heap.size w3.heap.size wv.heap.size A3 _ d3 (j + 1) _ _ _ (out.take j ++ [_]) (out.drop j) rfl rfl (by rw [List.length_append, ← HF1.out]; rfl) (by first | exact HDL.out | (have := HDL.out; omega)) rfl HO3.out (by first | exact HR3.out | (simpa using HR3.out) | exact Row.empty _ (List.drop_eq_nil_of_le (by rw [HSL.out]; exact Nat.le_refl _))) (by omega) (by omega) (Nat.le_refl _) ?_)
                intro A4 d4 w4 ho4 hg4
                obtain ⟨g4, rfl, -⟩ := ho4.int (k := 0) (by simp; omega)
                have hb4 := below_only hb3 hg4 hwz (by omega)
                have hs4 := hg4.size
                have HO4 := Lib.hid (ho4.mono hwz (Nat.le_refl _))
                clear ho4 hg4
                go_wp2
                go_roundw
                case rel => first | exact ⟨k + 1, g4, d4, by omega, by go_num, slice_len (by omega), by rw [HSJ.out]; exact HO4.out, hb4⟩ | exact ⟨j + 1, g4, d4, by omega, by go_num, slice_len (by omega), by rw [HSJ.out]; exact HO4.out, hb4⟩ | exact ⟨k + 1, g4, d4, by omega, by go_num, slice_len (by omega), by rw [HSJ.out]; simpa using HO4.out, hb4⟩ | exact ⟨j + 1, g4, d4, by omega, by go_num, slice_len (by omega), by rw [HSJ.out]; simpa using HO4.out, hb4⟩
                case measure => simp [intOf]; omega
          · have HP : Hid (posW W k out = j) := Lib.hid (by rw [posW_miss W k out k HSL.out (fun i hi hik => HN.out i hi (by omega))]; omega)
            have hnk : ¬ ((j : Int) < (k : Int)) := by omega
            have hd9 : decide (j < k) = false := by rw [decide_eq_false_iff_not]; exact hjk
            have hd8 : decide ((j : Int) < (k : Int)) = false := by rw [decide_eq_false_iff_not]; exact hnk
            go_wp2
            go_quiet (fail)
            obtain ⟨W0, hW0⟩ : ∃ W0, W0 = wr.drewN nq := ⟨_, rfl⟩
            rw [← hW0]
            have hbx : Below w1.heap.size w1 W0 := by rw [hW0]; exact below_drewN hbx nq
            have HOx : Hid (Own W0 w1.heap.size W0.heap.size 3 (some ⟨g, 0, none⟩) d (ints out)) := Lib.hid (by rw [hW0]; exact HOx.out.drewN nq)
            have c0 : W0.cell? ⟨w.heap.size, 0, none⟩ = some (.int .i64 (W.length : Int)) := by rw [hW0]; exact c0
            have c1 : W0.cell? ⟨w.heap.size, 1, none⟩ = some (.slice A W.length c) := by rw [hW0]; exact c1
            clear hW0 hb hbi hd9 hd8
            have HF1 := Lib.hid (take_len out j (by have := HSL.out; omega))
            have hz0 : Own (W0.alloc (.cells #[] 3)) W0.heap.size (W0.heap.size + 1) 3 (some ⟨W0.heap.size, 0, none⟩) 0 (ints []) := Own.made W0 W0.heap.size 3 #[] (Nat.le_refl _) (by simp)
            have HF2 := Lib.hid hz0
            have HOa := Lib.hid (HOx.out.alloc (Nat.le_refl _) (.cells #[] 3))
            have HF3 := Lib.hid (Row.intTake HOa.out.row j)
            have hwz := hbx.size
            have hjd : (j < d ∧ (j : Int) < (d : Int) ∧ ¬ (d = j) ∧ ¬ (j = d)) ∨ (j = k ∧ j = d) := by omega
            have HSJ : Hid (fwL W (k + 1) = out.take j ++ (k : Int) :: out.drop j) := Lib.hid (by rw [HS.out, HP.out]; rfl)
            have HDL : Hid (k - j = (out.drop j).length) := Lib.hid (by rw [List.length_drop, HSL.out])
            have d0 : ∀ o, (W0.alloc o).cell? ⟨w.heap.size, 0, none⟩ = some (.int .i64 (W.length : Int)) := fun o => (World.cell?_alloc_lt W0 o _ (World.block_lt_of_cell? _ _ c0)).trans c0
            clear hz0 HS HP c0 c1 d0
            rcases hjd with ⟨hjd, hjd1, hjd2, hjd3⟩ | ⟨rfl, rfl⟩
            all_goals
              go_wp2_with (at_builtin; refine wpList_pushAny rfl (.tmp 33) (.tmp 36) rfl W0.heap.size (W0.heap.size + 1) W0.heap.size (some ⟨W0.heap.size, 0, none⟩) (some ⟨g, 0, none⟩) 0 0 j _ j [] (out.take j) rfl rfl rfl HF1.out (Nat.zero_add j).symm HF2.out HF3.out (by omega) (by simp) (by simp) ?_)
              intro A2 d2 w2 ho2 hg2
              have hs2 : W0.heap.size + 1 ≤ w2.heap.size := by simpa using hg2.size
              have HO2 := Lib.hid ho2
              have HP2 := Lib.hid (HOa.out.only hg2 (by simp) (.inl (Nat.le_refl _)))
              have hb2 := below_only (hbx.alloc hwz (.cells #[] 3)) hg2 hwz (by simp; omega)
              clear ho2 hg2
              go_wp2_with (at_builtin; refine wpList_push rfl (.tmp 38) (.tmp 40) rfl W0.heap.size w2.heap.size A2 d2 j (out.take j) _ w2.heap.size rfl rfl HF1.out (HO2.out.alloc (Nat.le_refl _) _) (cell_one _ _ _) (by omega) (by simp; omega) ?_)
              intro A3 d3 w3 ho3 hg3
              have hs3 : w2.heap.size + 1 ≤ w3.heap.size := by simpa using hg3.size
              have HO3 := Lib.hid ho3
              have HP3 := Lib.hid ((HP2.out.alloc (by omega) _).only hg3 (by simp; omega) (.inl (Nat.le_refl _)))
              have hb3 := below_only (hb2.alloc (by omega) _) hg3 hwz (by simp; omega)
              have HR3 := Lib.hid (HP3.out.row.dropAt (k := j))
              clear ho3 hg3
              go_wp2_with (at_builtin; refine wpList_pushAny rfl (.tmp 42) (.tmp 45) rfl W0.heap.size w3.heap.size W0.heap.size A3 _ d3 (j + 1) _ _ _ (out.take j ++ [_]) (out.drop j) rfl rfl (by rw [List.length_append, ← HF1.out]; rfl) (by first | exact HDL.out | (have := HDL.out; omega)) rfl HO3.out (by first | exact HR3.out | (simpa using HR3.out) | exact Row.empty _ (List.drop_eq_nil_of_le (by rw [HSL.out]; exact Nat.le_refl _))) (by omega) (by omega) (Nat.le_refl _) ?_)
              intro A4 d4 w4 ho4 hg4
              obtain ⟨g4, rfl, -⟩ := ho4.int (k := 0) (by simp; omega)
              have hb4 := below_only hb3 hg4 hwz (by omega)
              have hs4 := hg4.size
              have HO4 := Lib.hid (ho4.mono hwz (Nat.le_refl _))
              clear ho4 hg4
              go_wp2
              go_roundw
              case rel => first | exact ⟨k + 1, g4, d4, by omega, by go_num, slice_len (by omega), by rw [HSJ.out]; exact HO4.out, hb4⟩ | exact ⟨j + 1, g4, d4, by omega, by go_num, slice_len (by omega), by rw [HSJ.out]; exact HO4.out, hb4⟩ | exact ⟨k + 1, g4, d4, by omega, by go_num, slice_len (by omega), by rw [HSJ.out]; simpa using HO4.out, hb4⟩ | exact ⟨j + 1, g4, d4, by omega, by go_num, slice_len (by omega), by rw [HSJ.out]; simpa using HO4.out, hb4⟩
              case measure => simp [intOf]; omega
      · obtain rfl : k = W.length := by omega
        have HR := Lib.hid hsl
        have hz := hbw.size
        clear hsl
        go_wp2
        go_ret
        exact ⟨some ⟨g, 0, none⟩, d, ret_slice HR.out.symm, HO.out.mono hz (Nat.le_refl _), below_trans hbw hb⟩
end Go.Proofs.Ytkdfjkocfejfjaa
