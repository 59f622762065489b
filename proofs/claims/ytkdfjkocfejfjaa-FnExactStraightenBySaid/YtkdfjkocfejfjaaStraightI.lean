/- The program's StraightenBy, walked. -/
import Derived.Test.YtkdfjkocfejfjaaStraight
namespace Go.Proofs.Ytkdfjkocfejfjaa
open Go.RowKit

theorem str_none {s : Int} {zs os : List Int} (h : rOrderOk s zs os = false) {w w' : World} (hb : Below w.heap.size w w') : NewTourOk w (tStraightenBy s zs os) (rStraightenBy s zs os) (bStraightenBy s zs os) (.returned (.tuple #[.agg #[.int .i64 0, .slice none 0 0], .bool false])) w' :=
  newTourOk_none (by unfold tStraightenBy; rw [h]; rfl) (by unfold rStraightenBy; rw [h]; rfl) h hb
set_option maxHeartbeats 1600000 in
theorem iStraightenBy_any (A : Option Addr) (c : Nat) (s : Int) (zs : List Int) (A' : Option Addr) (c' : Nat) (os : List Int) (w : World) (h : Row w w.heap.size A (ints zs)) (hl : zs.length ≤ 1099511627776) (h' : Row w w.heap.size A' (ints os)) (hl' : os.length ≤ 1099511627776) (hc' : os.length ≤ c') (_ : c' ≤ maxLen) :
    Calls Try.prog 39 #[.agg #[.int .i64 s, .slice A zs.length c], .slice A' os.length c'] w (NewTourOk w (tStraightenBy s zs os) (rStraightenBy s zs os) (bStraightenBy s zs os)) := by
  cases hok : rOrderOk s zs os with
  | false =>
    have N := Lib.hid hok
    clear hok
    go_enter Try.func39, Try.ntmps39
    go_wp2_with fail
    refine (iOrderOk_any A c s zs A' c' os _ (h.rowAt (by go_grown) (Nat.le_refl _)) hl (h'.rowAt (by go_grown) (Nat.le_refl _)) hl' hc').mono ?_
    rw [N.out]
    rintro e w1 ⟨rfl, hb⟩
    obtain ⟨⟨k0, k1⟩, ⟨j0, j1⟩, ⟨f0, f1⟩, hbw, hsz⟩ := res2 hb
    clear hb
    go_wp2
    refine bodyPost_ret (v := .tuple #[.agg #[.int .i64 0, .slice none 0 0], .bool false]) (by simp [results, Try.results39, go_sem, j0, j1]) rfl (str_none N.out ?_)
    refine (hbw.setCell ?_ _).setCell ?_ _
    all_goals (show _ ≤ _; simp)
  | true =>
    obtain ⟨ho, hol, hob⟩ := orderOk_facts hok
    obtain ⟨W, rfl, rfl, hT⟩ := ok_tour ho
    rw [toW_casts] at hol
    have g1 := hT.h1
    have g8 := hT.h8
    have R1 : tStraightenBy (W.length : Int) (casts W) os = (W.length : Int) := by unfold tStraightenBy; rw [hok, toW_casts]; rfl
    have R2 : rStraightenBy (W.length : Int) (casts W) os = casts (strW W (backRows W os) (backRows W os).length) := by unfold rStraightenBy; rw [hok, toW_casts]; rfl
    have R3 : bStraightenBy (W.length : Int) (casts W) os = true := hok
    have HOK := Lib.hid (fun W' hr1 hr2 => iOrderOkW A c W A' c' os W' hT hr1 hr2 hl' hc' hol hob)
    rw [hol] at HOK
    have HBG := Lib.hid (fun W' hr1 hr2 => backGames_any A c W A' c' os W' hT hr1 hr2 hl')
    rw [hol] at HBG
    have HPR := Lib.hid (back_pairs W hT os)
    have hle : (backRows W os).length ≤ 100 := prRows_le _ _ g8
    rw [casts_length, hol, R1, R2, R3]
    generalize backRows W os = rs at *
    have HSO := Lib.hid (fun k hk => strW_ok W hT rs HPR.out k hk)
    have HSL := Lib.hid (fun k => strW_length W rs k)
    clear hok ho hl hol hob hl' hc' R1 R2 R3
    go_enter Try.func39, Try.ntmps39
    go_wp2_with fail
    refine (HOK.out _ (h.rowAt (by go_grown) (Nat.le_refl _)) (h'.rowAt (by go_grown) (Nat.le_refl _))).mono ?_
    rintro e w1 ⟨rfl, hb⟩
    obtain ⟨⟨k0, k1⟩, ⟨j0, j1⟩, ⟨f0, f1⟩, hbw, hsz⟩ := res2 hb
    obtain ⟨-, ⟨l0, l1⟩⟩ := res_keep (b := w.heap.size) (u0 := .int .i64 (W.length : Int)) (u1 := .slice A W.length c) (by go_simp) (by go_simp) (by go_simp) (by go_simp) hb
    clear hb
    go_wp2_with fail
    refine (HBG.out _ (h.rowAt hbw (Nat.le_refl _)) (h'.rowAt hbw (Nat.le_refl _))).mono ?_
    rintro e w2 ⟨T, dT, rfl, ho2, hb2⟩
    have HS0 : Hid (StB w W (strW W rs 0) A c w2) := Lib.hid (StB.next ⟨⟨⟨k0, k1⟩, ⟨l0, l1⟩⟩, ⟨⟨j0, j1⟩, ⟨f0, f1⟩⟩, h.rowAt hbw (Nat.le_refl _), hbw, hsz⟩ hb2)
    have HO2 := Lib.hid ho2
    clear ho2 k0 k1 l0 l1 j0 j1 f0 f1 HOK HBG
    go_wp2
    go_loopw [17] (fun v wr => ∃ (i : Nat) (B : Option Addr) (d : Nat), i ≤ rs.length ∧ v = .int .i64 (i : Int) ∧ Hid (StB w W (strW W rs i) B d wr) ∧ Hid (OwnT wr w1.heap.size w2.heap.size T dT rs) ∧ w2.heap.size ≤ wr.heap.size) (fun v _ => rs.length - (intOf v).toNat)
    case atStart => exact ⟨0, A, c, Nat.zero_le _, rfl, HS0, HO2, Nat.le_refl _⟩
    case round =>
      obtain ⟨i, B, d, hi, rfl, HS, HO, hz⟩ := hrel
      obtain ⟨⟨⟨k0, k1⟩, ⟨l0, l1⟩⟩, ⟨⟨j0, j1⟩, ⟨f0, f1⟩⟩, hr, hbr, hzr⟩ := HS.out
      have HVL := Lib.hid (HSL.out i)
      have HVT := Lib.hid (HSO.out i hi)
      by_cases hlt : i < rs.length
      · obtain ⟨x, y, hx, hy, er, hxy⟩ := HPR.out _ (List.getElem_mem hlt)
        obtain ⟨g, A2, c2, rfl, _, hg2, x0, ho3⟩ := ownT_at HO.out hlt
        rw [er] at x0 ho3
        obtain ⟨q, rfl, hq1, hq2, y0, _⟩ := ho3.int (k := 0) (by simp [pair2])
        obtain ⟨q', e, _, _, y1, _⟩ := ho3.int (k := 1) (by simp [pair2])
        simp only [Option.some.injEq, Addr.mk.injEq, and_true] at e
        subst e
        replace x0 : wr.cell? ⟨g, i, none⟩ = some (.slice (some ⟨q, 0, none⟩) 2 c2) := x0
        replace y0 : wr.cell? ⟨q, 0, none⟩ = some (.int .i64 (x : Int)) := y0
        replace y1 : wr.cell? ⟨q, 1, none⟩ = some (.int .i64 (y : Int)) := y1
        have hq6 := fun (X : World) (u : Value) (j k : Nat) => World.cell?_setCell_far X ⟨w.heap.size, k, none⟩ ⟨q, j, none⟩ u (by show w.heap.size ≠ q; omega)
        have HQ6 := Lib.hid hq6
        have HN : Hid (strW W rs (i + 1) = flipW (strW W rs i) x y) := Lib.hid (by rw [strW_next W rs i hlt, er, flipR_pair])
        have HF := Lib.hid (fun W' hr' => (by have hx9 := flipped_any B d (strW W rs i) x y W' HVT.out hr' (by rw [HVL.out]; exact hx) (by rw [HVL.out]; exact hy); rw [HVL.out] at hx9; exact hx9 :
          Calls Try.prog 76 #[.agg #[.int .i64 (W.length : Int), .slice B W.length d], .int .i64 (x : Int), .int .i64 (y : Int)] W' (NewTour W' (W.length : Int) (casts (flipW (strW W rs i) x y)))))
        have HFL : Hid ((casts (flipW (strW W rs i) x y)).length = W.length) := Lib.hid (by rw [casts_length, flipW_length, HVL.out])
        have b0 : (0 : Int) ≤ (i : Int) := by omega
        have b1 : (i : Int) < (rs.length : Int) := by omega
        have hqs : q < wr.heap.size := by omega
        clear ho3 er hq6 j0 j1 f0 f1
        go_wp2
        refine wp_region_held_drew (S := fun w' => w'.cell? ⟨q, 0, none⟩ = some (.int .i64 (x : Int)) ∧ w'.cell? ⟨q, 1, none⟩ = some (.int .i64 (y : Int))) (by kernel_rfl) ?_ (fun hHeld => ?_)
        · (try dsimp only); exact ⟨y0, y1⟩
        refine wpAnyH_take (i := 1) (v := ?_) rfl (by kernel_rfl) (by kernel_rfl) (by kernel_rfl) (fun _ _ _ h => h) (Or.inl ⟨by rfl, ?_⟩) (by assumption) ?_
        rotate_left
        · (intro wq hSw; (try dsimp only at hSw); (go_simp <;> with_reducible rfl))
        try simp only [Act.put, List.getElem_toArray, List.getElem_cons_zero, List.getElem_cons_succ, List.setIfInBounds_toArray, List.set_cons_zero, List.set_cons_succ]
        refine wpAnyH_take (i := 2) (v := ?_) rfl (by kernel_rfl) (by kernel_rfl) (by kernel_rfl) (fun _ _ _ h => h) (Or.inl ⟨by rfl, ?_⟩) (by assumption) ?_
        rotate_left
        · (intro wq hSw; (try dsimp only at hSw); (go_simp <;> with_reducible rfl))
        try simp only [Act.put, List.getElem_toArray, List.getElem_cons_zero, List.getElem_cons_succ, List.setIfInBounds_toArray, List.set_cons_zero, List.set_cons_succ]
        refine wpAnyH_take (i := 3) (v := ?_) rfl (by kernel_rfl) (by kernel_rfl) (by kernel_rfl) (fun _ _ _ h => h) (Or.inl ⟨by rfl, ?_⟩) (by assumption) ?_
        rotate_left
        · (intro wq hSw; (try dsimp only at hSw); (go_simp <;> with_reducible rfl))
        try simp only [Act.put, List.getElem_toArray, List.getElem_cons_zero, List.getElem_cons_succ, List.setIfInBounds_toArray, List.set_cons_zero, List.set_cons_succ]
        refine wpAnyH_take (i := 4) (v := ?_) rfl (by kernel_rfl) (by kernel_rfl) (by kernel_rfl) (fun _ _ _ h => h) (Or.inl ⟨by rfl, ?_⟩) (by assumption) ?_
        rotate_left
        · (intro wq hSw; (try dsimp only at hSw); (go_simp <;> with_reducible rfl))
        try simp only [Act.put, List.getElem_toArray, List.getElem_cons_zero, List.getElem_cons_succ, List.setIfInBounds_toArray, List.set_cons_zero, List.set_cons_succ]
        refine wpAnyH_take (i := 5) (v := ?_) rfl (by kernel_rfl) (by kernel_rfl) (by kernel_rfl) (fun _ _ _ h => h) (Or.inl ⟨by rfl, ?_⟩) (by assumption) ?_
        rotate_left
        · (intro wq hSw; (try dsimp only at hSw); (go_simp <;> with_reducible rfl))
        try simp only [Act.put, List.getElem_toArray, List.getElem_cons_zero, List.getElem_cons_succ, List.setIfInBounds_toArray, List.set_cons_zero, List.set_cons_succ]
        refine wpAnyH_take (i := 6) (v := ?_) rfl (by kernel_rfl) (by kernel_rfl) (by kernel_rfl) (fun _ _ _ h => h) (Or.inl ⟨by rfl, ?_⟩) (by assumption) ?_
        rotate_left
        · (intro wq hSw; (try dsimp only at hSw); (go_simp <;> with_reducible rfl))
        try simp only [Act.put, List.getElem_toArray, List.getElem_cons_zero, List.getElem_cons_succ, List.setIfInBounds_toArray, List.set_cons_zero, List.set_cons_succ]
        refine wpAnyH_ready (rs := [0]) (by kernel_rfl) (by simp) ?_
        refine AllReadyH.cons rfl (fun K hK => ?_) AllReadyH.nil
        go_simp
        skip
        refine hK.out _ _ ?_ (fun hHeld => ?_)
        · (try dsimp only); exact ⟨y0, y1⟩
        clear hK K
        try simp only [Act.put, List.getElem_toArray, List.getElem_cons_zero, List.getElem_cons_succ, List.setIfInBounds_toArray, List.set_cons_zero, List.set_cons_succ]
        refine wpAnyH_ready (rs := [7]) (by kernel_rfl) (by simp) ?_
        refine AllReadyH.cons rfl (fun K hK => ?_) AllReadyH.nil
        go_simp
        (go_at_call 76; (with_reducible refine (HF.out _ (hr.rowAt (Below.refl _ _).drew (Nat.le_refl _))).mono ?_); rintro e w5 ⟨B5, d5, rfl, ho5, hb5⟩; rw [HFL.out]; have hb5 := below_undrew hb5; have z0 := (hb5.cell (p := ⟨q, 0, none⟩) hqs).trans y0; have z1 := (hb5.cell (p := ⟨q, 1, none⟩) hqs).trans y1; obtain ⟨⟨m0, m1⟩, ⟨n0, n1⟩⟩ := res_keep k0 k1 l0 l1 hb5; go_wp2_with fail)
        refine hK.out _ _ ?_ (fun hHeld => ?_)
        · (try dsimp only); exact ⟨z0, z1⟩
        clear hK K
        try simp only [Act.put, List.getElem_toArray, List.getElem_cons_zero, List.getElem_cons_succ, List.setIfInBounds_toArray, List.set_cons_zero, List.set_cons_succ]
        refine wpAnyH_ready (rs := [8]) (by kernel_rfl) (by simp) ?_
        refine AllReadyH.cons rfl (fun K hK => ?_) AllReadyH.nil
        go_simp
        skip
        refine hK.out _ _ ?_ (fun hHeld => ?_)
        · (try dsimp only); (rw [HQ6.out, HQ6.out, HQ6.out, HQ6.out]; exact ⟨z0, z1⟩)
        clear hK K
        try simp only [Act.put, List.getElem_toArray, List.getElem_cons_zero, List.getElem_cons_succ, List.setIfInBounds_toArray, List.set_cons_zero, List.set_cons_succ]
        refine wpAnyH_done (by kernel_rfl) ?_ _
        have hz5 := hb5.size
        go_wp2
        go_roundw
        case rel => exact ⟨i + 1, B5, d5, by omega, by go_num, Lib.hid (by rw [HN.out]; exact (HS.out.next hb5).put ho5 hzr), Lib.hid (((HO.out.below hb5 hz).setCell (p := ⟨w.heap.size, 0, none⟩) (.inl (by show w.heap.size < _; omega)) _).setCell (p := ⟨w.heap.size, 1, none⟩) (.inl (by show w.heap.size < _; omega)) _), by simp; omega⟩
        case measure => simp [intOf]; omega
      · obtain rfl : i = rs.length := by omega
        have HCL := Lib.hid (fun W' hr' => (by have hx9 := cloneW_any B d (strW W rs rs.length) W' hr' (by rw [HVL.out]; exact g1) (by rw [HVL.out]; exact g8); rw [HVL.out] at hx9; exact hx9 :
          Calls Try.prog 77 #[.slice B W.length d] W' (NewInts W' 3 (casts (strW W rs rs.length)))))
        have hm1 : w.heap.size + 1 ≤ wr.heap.size := by omega
        have HK := Lib.hid (fun W' (hW : Below (w.heap.size + 1) wr W') => (⟨hW, (hW.cell (p := ⟨w.heap.size, 0, none⟩) (Nat.lt_succ_self _)).trans k0, (hW.cell (p := ⟨w.heap.size, 1, none⟩) (Nat.lt_succ_self _)).trans k1⟩ :
          Below (w.heap.size + 1) wr W' ∧ W'.cell? ⟨w.heap.size, 0, none⟩ = some (.int .i64 (W.length : Int)) ∧ W'.cell? ⟨w.heap.size, 1, none⟩ = some (.slice B W.length d)))
        have HJ := Lib.hid (fun W' (hW : Below wr.heap.size wr W') => res_keep j0 j1 f0 f1 hW)
        have hbb : Below wr.heap.size wr wr := Below.refl _ _
        clear HS HO
        go_wp2
        go_region_held3 (fun w' => Below (w.heap.size + 1) wr w' ∧ w'.cell? ⟨w.heap.size, 0, none⟩ = some (.int .i64 (W.length : Int)) ∧ w'.cell? ⟨w.heap.size, 1, none⟩ = some (.slice B W.length d))
          ((first | exact HK.out _ (hbb.mono hm1) | exact HK.out _ (hbb.drew.mono hm1) | exact HK.out _ (((hbb.mono hm1).setCell (p := ⟨w.heap.size + 1, 0, none⟩) (Nat.le_refl _) _).setCell (p := ⟨w.heap.size + 1, 1, none⟩) (Nat.le_refl _) _)))
          ((go_at_call 77; (with_reducible refine (HCL.out _ (hr.rowAt (by first | exact hbb | exact hbb.drew) (Nat.le_refl _))).mono ?_); rintro e w6 ⟨B6, d6, rfl, r6, hq6⟩; rw [casts_length, HVL.out]; have hbb : Below wr.heap.size wr w6 := (by first | exact below_trans hbb hq6 | exact below_trans hbb (below_undrew hq6)); obtain ⟨⟨s0, s1⟩, ⟨u0, u1⟩⟩ := HJ.out _ hbb))
        go_wp2
        refine bodyPost_ret (v := .tuple #[.agg #[.int .i64 (W.length : Int), .slice B6 W.length d6], .bool true]) (by simp [results, Try.results39, go_sem, s0, s1]) rfl ⟨B6, d6, ?_, ?_, ?_⟩
        · rw [casts_length, HVL.out]
        · refine Own.mono (Own.setCell (Own.setCell r6 ?_ _) ?_ _) hbr.size (by simp)
          all_goals (left; show w.heap.size + 1 < wr.heap.size; omega)
        · refine ((below_trans hbr hbb).setCell ?_ _).setCell ?_ _
          all_goals (show _ ≤ _; simp)
end Go.Proofs.Ytkdfjkocfejfjaa
