/- improved, walked. -/
import Derived.Test.YtkdfjkocfejfjaaDelete
import Derived.Test.YtkdfjkocfejfjaaAny
import Derived.Test.YtkdfjkocfejfjaaBackG
namespace Go.Proofs.Ytkdfjkocfejfjaa
open Go.RowKit

theorem clone_some (a : Addr) (c : Nat) (zs : List Int) (w : World) (h : Row w w.heap.size (some a) (ints zs)) (hl : zs.length ≤ 1000000) :
    Calls Try.prog 77 #[.slice (some a) zs.length c] w (NewInts w 3 zs) := by
  have hnil := fun (W : World) => Lib.run_eql_slice_nil (P := Try.prog) W 22 3 (some a) zs.length c 0 0 Try.underlying22
  go_enter Try.func77, Try.ntmps77
  go_wp2_with (at_builtin; refine wpList_pushAny rfl (.tmp 5) (.tmp 6) rfl w.heap.size (w.heap.size + 1) (w.heap.size + 1) (some ⟨w.heap.size, 0, none⟩) (some a) 0 0 zs.length c zs.length [] zs rfl rfl rfl rfl (Nat.zero_add _).symm ?c0 ?c1 (by omega) (by simp) (by simp) ?_)
  case c0 => exact Own.made w w.heap.size 3 #[] (Nat.le_refl _) (by simp)
  case c1 => exact (h.alloc (Nat.le_refl _) _).mono (by simp)
  intro A' c' w1 ho hg
  have HO := Lib.hid ho
  clear ho
  go_wp2
  go_ret
  exact ⟨A', c', rfl, by simpa using HO.out, below_only ((Below.refl _ _).alloc (Nat.le_refl _) _) hg (Nat.le_refl _) (by simp)⟩
def ImpRes (w : World) (o : Option (List Int)) (e : Ending) (w' : World) : Prop :=
  (o = none ∧ e = .returned (.slice none 0 0) ∧ Below w.heap.size w w') ∨
  ∃ L g c, o = some L ∧ e = .returned (.slice (some ⟨g, 0, none⟩) L.length c) ∧ Own w' w.heap.size w'.heap.size 3 (some ⟨g, 0, none⟩) c (ints L) ∧ Below w.heap.size w w'
theorem im_next {wr w' wq : World} {g a b : Nat} {u v : Value} (h : Below wr.heap.size wr w' ∧ w'.cell? ⟨g, a, none⟩ = some u ∧ w'.cell? ⟨g, b, none⟩ = some v) (hq : Below w'.heap.size w' wq) :
    Below wr.heap.size wr wq ∧ wq.cell? ⟨g, a, none⟩ = some u ∧ wq.cell? ⟨g, b, none⟩ = some v := by
  obtain ⟨h1, h2, h3⟩ := h
  have l1 := World.block_lt_of_cell? _ _ h2
  exact ⟨below_trans h1 hq, (hq.cell (p := ⟨g, a, none⟩) l1).trans h2, (hq.cell (p := ⟨g, b, none⟩) l1).trans h3⟩
theorem revs_le (W : List Nat) (os : List Int) (hl : os.length = W.length) (h8 : W.length ≤ 8) (h : orderB os = true) : revs W os ≤ 100 := by
  rw [← back_count W os hl h]
  exact prRows_le _ _ h8
theorem backGamesN (A : Option Addr) (c : Nat) (W : List Nat) (A' : Option Addr) (c' : Nat) (os : List Int) (w : World) (hT : IsT W) (h : Row w w.heap.size A (ints (casts W))) (h' : Row w w.heap.size A' (ints os)) (hl : os.length = W.length) (hob : orderB os = true) :
    Calls Try.prog 71 #[.agg #[.int .i64 (W.length : Int), .slice A W.length c], .slice A' W.length c'] w fun e w' => ∃ T dT, e = .returned (.slice T (revs W os) dT) ∧ Below w.heap.size w w' := by
  have hx := backGames_any A c W A' c' os w hT h h' (by have := hT.h8; omega)
  rw [hl] at hx
  refine hx.mono ?_
  rintro e w' ⟨T, dT, rfl, _, hb⟩
  exact ⟨T, dT, by rw [back_count W os hl hob], hb⟩
set_option maxHeartbeats 1600000 in
theorem improved_any (A : Option Addr) (c : Nat) (W : List Nat) (A' : Option Addr) (c' : Nat) (os : List Int) (w : World) (hT : IsT W) (h : Row w w.heap.size A (ints (casts W))) (h' : Row w w.heap.size A' (ints os)) (hol : os.length = W.length) (hob : orderB os = true) :
    Calls Try.prog 91 #[.agg #[.int .i64 (W.length : Int), .slice A W.length c], .slice A' W.length c'] w (ImpRes w (nxt W os)) := by
  have g1 := hT.h1
  have g8 := hT.h8
  obtain ⟨bo, oo, rfl, hbo, -⟩ := h'.int (k := 0) (by omega)
  have HOL := Lib.hid hol
  have HOB := Lib.hid hob
  clear hol hob
  go_enter Try.func91, Try.ntmps91
  go_wp2
  obtain ⟨w1, hw1⟩ : ∃ w1, w1 = w.alloc (.cells #[.int .i64 (W.length : Int), .slice A W.length c] 27) := ⟨_, rfl⟩
  rw [← hw1]
  have k0 : w1.cell? ⟨w.heap.size, 0, none⟩ = some (.int .i64 (W.length : Int)) := by rw [hw1]; go_simp
  have k1 : w1.cell? ⟨w.heap.size, 1, none⟩ = some (.slice A W.length c) := by rw [hw1]; go_simp
  have hbw : Below w.heap.size w w1 := by rw [hw1]; go_grown
  have h := h.rowAt hbw (Nat.le_refl _)
  have h' := h'.rowAt hbw (Nat.le_refl _)
  clear hw1
  go_loopw [12] (fun v wr => ∃ i : Nat, i ≤ W.length ∧ v = .int .i64 (i : Int) ∧ Hid (∀ i', i' < i → ∀ k', k' < os.length → betB W os i' k' = false) ∧ Below w1.heap.size w1 wr) (fun v _ => W.length - (intOf v).toNat)
  case atStart => exact ⟨0, Nat.zero_le _, rfl, Lib.hid (fun i hi => absurd hi (Nat.not_lt_zero _)), Below.refl _ _⟩
  case round =>
    obtain ⟨i, hi, rfl, HN, hb⟩ := hrel
    by_cases hlt : i < W.length
    · have hio : i < os.length := by have := HOL.out; omega
      have hr := h'.rowAt hb (Nat.le_refl _)
      obtain ⟨b9, o9, e9, _, x0⟩ := hr.int hio
      simp only [Option.some.injEq, Addr.mk.injEq, and_true] at e9
      obtain ⟨rfl, rfl⟩ := e9
      have HA : Hid (os[i] = os.getD i 0) := Lib.hid (getD_lt _ _ _ hio).symm
      rw [HA.out] at x0
      have HCL := Lib.hid (by have hx := clone_some ⟨bo, oo, none⟩ c' os wr hr (by have := HOL.out; omega); rw [HOL.out] at hx; exact hx : Calls Try.prog 77 #[.slice (some ⟨bo, oo, none⟩) W.length c'] wr (NewInts wr 3 os))
      have HML := Lib.hid (fun k (hk : k < os.length) => mvL_length os i k hio hk)
      have HMO := Lib.hid (fun k => mvL_order os i k hio HOB.out)
      have HEL := Lib.hid (erase_len os i hio)
      have HMV : Hid (∀ k, mvL os i k = insAt (os.eraseIdx i) k (os.getD i 0)) := Lib.hid (fun k => rfl)
      generalize os.getD i 0 = a at *
      clear hr
      go_wp2_with fail
      refine HCL.out.mono ?_
      rintro e w2 ⟨B1, d1, rfl, ho1, hb2⟩
      rw [HOL.out]
      obtain ⟨q1, rfl, _, hq1, _, _⟩ := ho1.int (k := 0) (by omega)
      have HDE := Lib.hid (by have hx := delete_any q1 d1 i wr.heap.size w2.heap.size os w2 ho1 hio (Nat.le_refl _); rw [HOL.out, show ((i + 1 : Nat) : Int) = (i : Int) + 1 from rfl] at hx; exact hx : Calls Try.prog 110 #[.slice (some ⟨q1, 0, none⟩) W.length d1, .int .i64 (i : Int), .int .i64 ((i : Int) + 1)] w2 (Deleted w2 wr.heap.size w2.heap.size q1 d1 os i))
      clear ho1
      go_wp2_with fail
      refine HDE.out.mono ?_
      rintro e w3 ⟨rfl, ho3, hon3⟩
      rw [HOL.out]
      have hb3 := below_trans hb (hb2.trans (hon3.below (B := wr.heap.size) (Nat.le_refl _) hb2.size))
      have hz3 := hon3.size
      have HO3 := Lib.hid (ho3.mono (Nat.le_refl _) hz3)
      clear ho3 hon3 hb2 x0
      go_wp2
      obtain ⟨wo, rfl⟩ : ∃ wo : World, wo = wr := ⟨_, rfl⟩
      go_loopw [25] (fun v wr => ∃ k : Nat, k ≤ W.length ∧ v = .int .i64 (k : Int) ∧ Hid (∀ k', k' < k → betB W os i k' = false) ∧ Below w3.heap.size w3 wr) (fun v _ => W.length - (intOf v).toNat)
      case atStart => exact ⟨0, Nat.zero_le _, rfl, Lib.hid (fun k hk => absurd hk (Nat.not_lt_zero _)), Below.refl _ _⟩
      case round =>
        obtain ⟨k, hk, rfl, HK, hbk⟩ := hrel
        have hbX := below_trans hb3 hbk
        obtain ⟨c0, c1⟩ := held_at k0 k1 hbX
        by_cases hltk : k < W.length
        · have hko : k < os.length := by have := HOL.out; omega
          have hml := HML.out k hko
          have HM2 := Lib.hid (hml.trans HOL.out)
          have HR3 : Row wr wr.heap.size (some ⟨q1, 0, none⟩) (ints (os.eraseIdx i)) := HO3.out.row.rowAt hbk (Nat.le_refl _)
          have hrl : (os.eraseIdx i).length = W.length - 1 := by rw [HEL.out, HOL.out]
          have HRL := Lib.hid hrl
          have HC4 := Lib.hid (by have hx := clone_some ⟨q1, 0, none⟩ d1 (os.eraseIdx i) wr HR3 (by omega); rw [hrl] at hx; exact hx : Calls Try.prog 77 #[.slice (some ⟨q1, 0, none⟩) (W.length - 1) d1] wr (NewInts wr 3 (os.eraseIdx i)))
          clear hml HR3 hrl
          go_wp2_with fail
          refine HC4.out.mono ?_
          rintro e w4 ⟨B4, d4, rfl, ho4, hb4⟩
          rw [HRL.out]
          have hz4 := hb4.size
          have HIN := Lib.hid (by
            have hx := insert_any B4 d4 (os.eraseIdx i) a k w4.heap.size wr.heap.size w4.heap.size (w4.alloc (.cells #[.int .i64 a] 3)) (ho4.alloc (Nat.le_refl _) _) (by rw [HRL.out]; omega) (heap_alloc_new w4 _) (.inr (Nat.le_refl _)) (by simp) (by simp; omega) (by rw [HRL.out]; omega)
            rw [HRL.out] at hx
            exact hx :
            Calls Try.prog 81 #[.slice B4 (W.length - 1) d4, .int .i64 (k : Int), .slice (some ⟨w4.heap.size, 0, none⟩) 1 1] (w4.alloc (.cells #[.int .i64 a] 3)) (Inserted (w4.alloc (.cells #[.int .i64 a] 3)) wr.heap.size w4.heap.size (os.eraseIdx i) k a))
          have hbA : Below wr.heap.size wr (w4.alloc (.cells #[.int .i64 a] 3)) := hb4.alloc hz4 _
          clear ho4 hb4
          go_wp2_with fail
          refine HIN.out.mono ?_
          rintro e w5 ⟨B5, d5, rfl, ho5, hon5⟩
          rw [HRL.out, show W.length - 1 + 1 = W.length by omega]
          rw [← HMV.out] at ho5
          have hb5 := below_only hbA hon5 (Nat.le_refl _) hbA.size
          have hbY := below_trans hbX hb5
          obtain ⟨g5, rfl, -⟩ := ho5.int (k := 0) (by rw [HM2.out]; omega)
          obtain ⟨c0, c1⟩ := held_at k0 k1 hbY
          have HO5 := Lib.hid ho5
          have hR5 : Row w5 w5.heap.size (some ⟨g5, 0, none⟩) (ints (mvL os i k)) := ho5.row
          have HG1 := Lib.hid (fun W' hr1 hr2 => backGamesN A c W (some ⟨g5, 0, none⟩) d5 (mvL os i k) W' hT hr1 hr2 HM2.out (HMO.out k))
          have HG2 := Lib.hid (fun W' hr1 hr2 => backGamesN A c W (some ⟨bo, oo, none⟩) c' os W' hT hr1 hr2 HOL.out HOB.out)
          have l1 := revs_le W (mvL os i k) HM2.out g8 (HMO.out k)
          have l2 := revs_le W os HOL.out g8 HOB.out
          have HBE : Hid (betB W os i k = decide (revs W (mvL os i k) < revs W os)) := Lib.hid rfl
          have HMT : Hid (betB W os i k = true → nxt W os = some (mvL os i k)) := Lib.hid (fun hbt => nxt_at W os i k hio hko hbt HN.out HK.out)
          have hh := h.rowAt hbY (Nat.le_refl _)
          have hh' := h'.rowAt hbY (Nat.le_refl _)
          have hv : Below w5.heap.size w5 w5 := Below.refl _ _
          generalize mvL os i k = os2 at *
          generalize revs W os2 = r1 at *
          generalize revs W os = r2 at *
          clear ho5 hon5 hbA
          go_wp2
          go_region_held3 (fun w' => Below w5.heap.size w5 w' ∧ w'.cell? ⟨w.heap.size, 0, none⟩ = some (.int .i64 (W.length : Int)) ∧ w'.cell? ⟨w.heap.size, 1, none⟩ = some (.slice A W.length c))
            (first | exact ⟨hv, c0, c1⟩ | exact ⟨hv.drew, c0, c1⟩)
            (first
              | (go_at_call 71; (with_reducible refine (HG1.out _ (hh.rowAt (by first | exact hv | exact hv.drew) (Nat.le_refl _)) (hR5.rowAt (by first | exact hv | exact hv.drew) (Nat.le_refl _))).mono ?_); rintro e wv ⟨T1, dT1, rfl, hbv⟩; obtain ⟨hv, c0, c1⟩ : Below w5.heap.size w5 wv ∧ wv.cell? ⟨w.heap.size, 0, none⟩ = some (.int .i64 (W.length : Int)) ∧ wv.cell? ⟨w.heap.size, 1, none⟩ = some (.slice A W.length c) := (by first | exact im_next ⟨hv, c0, c1⟩ hbv | exact im_next ⟨hv.drew, c0, c1⟩ hbv))
              | (go_at_call 71; (with_reducible refine (HG2.out _ (hh.rowAt (by first | exact hv | exact hv.drew) (Nat.le_refl _)) (hh'.rowAt (by first | exact hv | exact hv.drew) (Nat.le_refl _))).mono ?_); rintro e wv ⟨T2, dT2, rfl, hbv⟩; obtain ⟨hv, c0, c1⟩ : Below w5.heap.size w5 wv ∧ wv.cell? ⟨w.heap.size, 0, none⟩ = some (.int .i64 (W.length : Int)) ∧ wv.cell? ⟨w.heap.size, 1, none⟩ = some (.slice A W.length c) := (by first | exact im_next ⟨hv, c0, c1⟩ hbv | exact im_next ⟨hv.drew, c0, c1⟩ hbv)))
          all_goals
            by_cases hlr : r1 < r2
            · have HT := Lib.hid (HMT.out (HBE.out.trans (decide_eq_true hlr)))
              have hlr2 : (r1 : Int) < (r2 : Int) := by omega
              have hz9 := hbY.size
              have hz8 := hbw.size
              have hz7 := hbX.size
              have HO6 := Lib.hid ((HO5.out.below hv (Nat.le_refl _)).mono (lo' := w.heap.size) (by omega) hv.size)
              have hbZ := below_trans hbw (below_trans hbY hv)
              clear hlr
              go_wp2
              go_ret
              exact .inr ⟨os2, g5, d5, HT.out, ret_slice HM2.out.symm, HO6.out, hbZ⟩
            · have HF : Hid (betB W os i k = false) := Lib.hid (HBE.out.trans (decide_eq_false hlr))
              have hlr2 : ¬ ((r1 : Int) < (r2 : Int)) := by omega
              have HK2 := Lib.hid (fun k' (hk' : k' < k + 1) => (by
                by_cases e : k' = k
                · subst e; exact HF.out
                · exact HK.out k' (by omega) : betB W os i k' = false))
              clear hlr
              go_wp2
              go_roundw
              case rel => exact ⟨k + 1, by omega, by go_num, HK2, below_trans hbk (below_trans hb5 hv)⟩
              case measure => simp [intOf]; omega
        · obtain rfl : k = W.length := by omega
          have HN2 := Lib.hid (fun i' (hi' : i' < i + 1) k' (hk' : k' < os.length) => (by
            by_cases e : i' = i
            · subst e; exact HK.out k' (by have := HOL.out; omega)
            · exact HN.out i' (by omega) k' hk' : betB W os i' k' = false))
          go_wp2
          go_roundw
          case rel => exact ⟨i + 1, by omega, by go_num, HN2, hbX⟩
          case measure => simp [intOf]; omega
    · obtain rfl : i = W.length := by omega
      have HX := Lib.hid (nxt_none W os (fun i hi k hk => HN.out i (by have := HOL.out; omega) k hk))
      go_wp2
      go_ret
      exact .inl ⟨HX.out, rfl, below_trans hbw hb⟩
end Go.Proofs.Ytkdfjkocfejfjaa
