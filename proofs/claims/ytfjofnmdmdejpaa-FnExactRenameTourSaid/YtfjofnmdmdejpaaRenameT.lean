/- RenameTour, walked on both sides (printed by tools/rename.py). -/
import Derived.Test.YtfjofnmdmdejpaaRename
namespace Go.Proofs.Ytfjofnmdmdejpaa
open Go.RowKit

def tRenameTour (s : Int) (zs : List Int) (os : List Int) : Int := if rOrderOk s zs os then ((toW zs).length : Int) else 0
def rRenameTour (s : Int) (zs : List Int) (os : List Int) : List Int := if rOrderOk s zs os then casts (renW (toW zs) os) else []
def bRenameTour (s : Int) (zs : List Int) (os : List Int) : Bool := rOrderOk s zs os
theorem rRenameTour_len (s : Int) (zs os : List Int) : (rRenameTour s zs os).length ≤ 1048576 := by
  unfold rRenameTour
  split
  · rename_i h
    unfold rOrderOk at h
    split at h
    · rename_i ho
      obtain ⟨W, rfl, rfl, hT⟩ := ok_tour ho
      rw [toW_casts, casts_length, renW_length]
      have := hT.h8
      omega
    · cases h
  · simp
theorem ren_none {s : Int} {zs os : List Int} (h : rOrderOk s zs os = false) {w w' : World} (hb : Below w.heap.size w w') : NewTourOk w (tRenameTour s zs os) (rRenameTour s zs os) (bRenameTour s zs os) (.returned (.tuple #[.agg #[.int .i64 0, .slice none 0 0], .bool false])) w' :=
  newTourOk_none (by unfold tRenameTour; rw [h]; rfl) (by unfold rRenameTour; rw [h]; rfl) h hb
set_option maxHeartbeats 1600000 in
theorem iRenameTour_any (A : Option Addr) (c : Nat) (s : Int) (zs : List Int) (A' : Option Addr) (c' : Nat) (os : List Int) (w : World) (h : Row w w.heap.size A (ints zs)) (hl : zs.length ≤ 1099511627776) (h' : Row w w.heap.size A' (ints os)) (hl' : os.length ≤ 1099511627776) (hc' : os.length ≤ c') :
    Calls Try.prog 50 #[.agg #[.int .i64 s, .slice A zs.length c], .slice A' os.length c'] w (NewTourOk w (tRenameTour s zs os) (rRenameTour s zs os) (bRenameTour s zs os)) := by
  cases ho : okB s zs with
  | false =>
    have N : Hid (rOrderOk s zs os = false) := Lib.hid (by unfold rOrderOk; rw [ho]; rfl)
    have HO := Lib.hid ho
    clear ho
    go_enter Try.func50, Try.ntmps50
    go_wp2_with fail
    refine (iTourOk_any A c s zs _ (h.rowAt (by go_grown) (Nat.le_refl _)) hl).mono ?_
    rw [HO.out]
    rintro e w1 ⟨rfl, hb⟩
    obtain ⟨⟨k0, k1⟩, ⟨j0, j1⟩, ⟨f0, f1⟩, hbw, hsz⟩ := res2 hb
    clear hb
    go_wp2
    refine bodyPost_ret (v := .tuple #[.agg #[.int .i64 0, .slice none 0 0], .bool false]) (by simp [results, Try.results50, go_sem, j0, j1]) rfl (ren_none N.out ?_)
    refine (hbw.setCell ?_ _).setCell ?_ _
    all_goals (show _ ≤ _; simp)
  | true =>
    obtain ⟨W, rfl, rfl, hT⟩ := ok_tour ho
    have g1 := hT.h1
    have g8 := hT.h8
    have RO : rOrderOk (W.length : Int) (casts W) os = (decide (os.length = W.length) && orderB os) := by unfold rOrderOk; rw [ho, toW_casts]; rfl
    rw [casts_length]
    clear ho hl
    by_cases hol : os.length = W.length
    · have e1 : ((os.length : Int) != (W.length : Int)) = false := by simp [hol]
      have HIS := Lib.hid (fun W' hr => isOrder_any A' c' os W' hr hl' hc')
      cases hob : orderB os with
      | false =>
        have N : Hid (rOrderOk (W.length : Int) (casts W) os = false) := Lib.hid (by rw [RO, hob, Bool.and_false])
        have HB := Lib.hid hob
        clear RO hob hol
        go_enter Try.func50, Try.ntmps50
        go_wp2_with fail
        refine (iTourOkW A c W _ hT (h.rowAt (by go_grown) (Nat.le_refl _))).mono ?_
        rintro e w1 ⟨rfl, hb⟩
        obtain ⟨⟨k0, k1⟩, ⟨j0, j1⟩, ⟨f0, f1⟩, hbw, hsz⟩ := res2 hb
        clear hb
        go_wp2_with fail
        refine (HIS.out _ (h'.rowAt hbw (Nat.le_refl _))).mono ?_
        rw [HB.out]
        rintro e w2 ⟨rfl, rfl⟩
        go_wp2
        refine bodyPost_ret (v := .tuple #[.agg #[.int .i64 0, .slice none 0 0], .bool false]) (by simp [results, Try.results50, go_sem, j0, j1]) rfl (ren_none N.out ?_)
        refine (hbw.setCell ?_ _).setCell ?_ _
        all_goals (show _ ≤ _; simp)
      | true =>
        have hok : (decide (os.length = W.length) && orderB os) = true := by rw [hob, hol]; simp
        have HREN := Lib.hid (fun W' hr hr' => renamed_any A c W A' c' os W' hT hr hr' hol hob)
        have R1 : tRenameTour (W.length : Int) (casts W) os = (W.length : Int) := by unfold tRenameTour; rw [RO, hok, toW_casts]; rfl
        have R2 : rRenameTour (W.length : Int) (casts W) os = casts (renW W os) := by unfold rRenameTour; rw [RO, hok, toW_casts]; rfl
        have R3 : bRenameTour (W.length : Int) (casts W) os = true := by unfold bRenameTour; rw [RO, hok]
        rw [R1, R2, R3]
        clear R1 R2 R3 RO hok
        rw [hol] at HIS
        have HB := Lib.hid hob
        have e2 : ((W.length : Int) != (W.length : Int)) = false := by simp
        rw [hol]
        clear hob hol e1 hl' hc'
        go_enter Try.func50, Try.ntmps50
        go_wp2_with fail
        refine (iTourOkW A c W _ hT (h.rowAt (by go_grown) (Nat.le_refl _))).mono ?_
        rintro e w1 ⟨rfl, hb⟩
        obtain ⟨⟨k0, k1⟩, ⟨j0, j1⟩, ⟨f0, f1⟩, hbw, hsz⟩ := res2 hb
        clear hb
        go_wp2_with fail
        refine (HIS.out _ (h'.rowAt hbw (Nat.le_refl _))).mono ?_
        rw [HB.out]
        rintro e w2 ⟨rfl, rfl⟩
        go_wp2_with fail
        refine (HREN.out _ (h.rowAt hbw (Nat.le_refl _)) (h'.rowAt hbw (Nat.le_refl _))).mono ?_
        rintro e w2 ⟨B, d, rfl, hown, hb2⟩
        rw [casts_length]
        obtain ⟨⟨s0, s1⟩, ⟨t0, t1⟩⟩ := res_keep j0 j1 f0 f1 hb2
        clear j0 j1 f0 f1
        go_wp2
        refine bodyPost_ret (v := .tuple #[.agg #[.int .i64 (W.length : Int), .slice B (renW W os).length d], .bool true]) (by simp [results, Try.results50, go_sem, s0, s1]) rfl ⟨B, d, ?_, ?_, ?_⟩
        · rw [casts_length]
        · refine Own.mono (Own.setCell (Own.setCell hown ?_ _) ?_ _) hbw.size (by simp)
          all_goals (left; show w.heap.size + 1 < w1.heap.size; omega)
        · refine ((below_trans hbw hb2).setCell ?_ _).setCell ?_ _
          all_goals (show _ ≤ _; simp)
    · have e1 : ((os.length : Int) != (W.length : Int)) = true := by rw [bne_iff_ne]; omega
      have N : Hid (rOrderOk (W.length : Int) (casts W) os = false) := Lib.hid (by rw [RO, decide_eq_false hol]; rfl)
      clear RO hol
      go_enter Try.func50, Try.ntmps50
      go_wp2_with fail
      refine (iTourOkW A c W _ hT (h.rowAt (by go_grown) (Nat.le_refl _))).mono ?_
      rintro e w1 ⟨rfl, hb⟩
      obtain ⟨⟨k0, k1⟩, ⟨j0, j1⟩, ⟨f0, f1⟩, hbw, hsz⟩ := res2 hb
      clear hb
      go_wp2
      refine bodyPost_ret (v := .tuple #[.agg #[.int .i64 0, .slice none 0 0], .bool false]) (by simp [results, Try.results50, go_sem, j0, j1]) rfl (ren_none N.out ?_)
      refine (hbw.setCell ?_ _).setCell ?_ _
      all_goals (show _ ≤ _; simp)
set_option maxHeartbeats 1600000 in
theorem sRenameTour_any (A : Option Addr) (c : Nat) (s : Int) (zs : List Int) (A' : Option Addr) (c' : Nat) (os : List Int) (w : World) (h : Row w w.heap.size A (ints zs)) (hl : zs.length ≤ 1099511627776) (h' : Row w w.heap.size A' (ints os)) (hl' : os.length ≤ 1099511627776) (_ : os.length ≤ c') :
    Calls Try.prog 49 #[.agg #[.int .i64 s, .slice A zs.length c], .slice A' os.length c'] w (NewTourOk w (tRenameTour s zs os) (rRenameTour s zs os) (bRenameTour s zs os)) := by
  cases ho : okB s zs with
  | false =>
    have N : Hid (rOrderOk s zs os = false) := Lib.hid (by unfold rOrderOk; rw [ho]; rfl)
    have HO := Lib.hid ho
    clear ho
    go_enter Try.func49, Try.ntmps49
    go_wp2_with fail
    refine (sTourOk_any A c s zs _ (h.rowAt (by go_grown) (Nat.le_refl _)) hl).mono ?_
    rw [HO.out]
    rintro e w1 ⟨rfl, hb⟩
    obtain ⟨⟨k0, k1⟩, ⟨j0, j1⟩, ⟨f0, f1⟩, hbw, hsz⟩ := res2 hb
    clear hb
    go_wp2
    refine bodyPost_ret (v := .tuple #[.agg #[.int .i64 0, .slice none 0 0], .bool false]) (by simp [results, Try.results49, go_sem, j0, j1]) rfl (ren_none N.out ?_)
    refine (hbw.setCell ?_ _).setCell ?_ _
    all_goals (show _ ≤ _; simp)
  | true =>
    obtain ⟨W, rfl, rfl, hT⟩ := ok_tour ho
    have g1 := hT.h1
    have g8 := hT.h8
    have RO : rOrderOk (W.length : Int) (casts W) os = (decide (os.length = W.length) && orderB os) := by unfold rOrderOk; rw [ho, toW_casts]; rfl
    rw [casts_length]
    clear ho hl
    have HIS := Lib.hid (fun W' hr => l02Perm_any A' c' W.length os W' hr g8 hl')
    cases hok : (decide (os.length = W.length) && orderB os) with
    | false =>
      have N : Hid (rOrderOk (W.length : Int) (casts W) os = false) := Lib.hid (by rw [RO, hok])
      have HB := Lib.hid hok
      clear RO hok
      go_enter Try.func49, Try.ntmps49
      go_wp2_with fail
      refine (sTourOkW A c W _ hT (h.rowAt (by go_grown) (Nat.le_refl _))).mono ?_
      rintro e w1 ⟨rfl, hb⟩
      obtain ⟨⟨k0, k1⟩, ⟨j0, j1⟩, ⟨f0, f1⟩, hbw, hsz⟩ := res2 hb
      clear hb
      go_wp2_with fail
      refine (HIS.out _ (h'.rowAt hbw (Nat.le_refl _))).mono ?_
      rw [HB.out]
      rintro e w2 ⟨rfl, hb2⟩
      obtain ⟨⟨j0, j1⟩, ⟨f0, f1⟩⟩ := res_keep j0 j1 f0 f1 hb2
      have hbw2 := below_trans hbw hb2
      go_wp2
      refine bodyPost_ret (v := .tuple #[.agg #[.int .i64 0, .slice none 0 0], .bool false]) (by simp [results, Try.results49, go_sem, j0, j1]) rfl (ren_none N.out ?_)
      refine (hbw2.setCell ?_ _).setCell ?_ _
      all_goals (show _ ≤ _; simp)
    | true =>
      have HB := Lib.hid hok
      have hob : orderB os = true := by rw [Bool.and_eq_true] at hok; exact hok.2
      have hol : os.length = W.length := by rw [Bool.and_eq_true] at hok; exact of_decide_eq_true hok.1
      have HREN := Lib.hid (fun W' hr hr' => l02Rename_any A c W A' c' os W' hT hr hr' hol hob)
      have R1 : tRenameTour (W.length : Int) (casts W) os = (W.length : Int) := by unfold tRenameTour; rw [RO, hok, toW_casts]; rfl
      have R2 : rRenameTour (W.length : Int) (casts W) os = casts (renW W os) := by unfold rRenameTour; rw [RO, hok, toW_casts]; rfl
      have R3 : bRenameTour (W.length : Int) (casts W) os = true := by unfold bRenameTour; rw [RO, hok]
      rw [R1, R2, R3]
      clear R1 R2 R3 RO hok
      rw [hol] at HIS HB
      rw [hol]
      clear hob hol hl'
      go_enter Try.func49, Try.ntmps49
      go_wp2_with fail
      refine (sTourOkW A c W _ hT (h.rowAt (by go_grown) (Nat.le_refl _))).mono ?_
      rintro e w1 ⟨rfl, hb⟩
      obtain ⟨⟨k0, k1⟩, ⟨j0, j1⟩, ⟨f0, f1⟩, hbw, hsz⟩ := res2 hb
      clear hb
      go_wp2_with fail
      refine (HIS.out _ (h'.rowAt hbw (Nat.le_refl _))).mono ?_
      rw [HB.out]
      rintro e w2 ⟨rfl, hb2⟩
      obtain ⟨⟨j0, j1⟩, ⟨f0, f1⟩⟩ := res_keep j0 j1 f0 f1 hb2
      obtain ⟨k0, k1⟩ := held_at k0 k1 hb2
      have hsz2 : w.heap.size + 1 < w2.heap.size := by have := hb2.size; omega
      have hbw2 := below_trans hbw hb2
      clear hb2
      go_wp2_with fail
      refine (HREN.out _ (h.rowAt hbw2 (Nat.le_refl _)) (h'.rowAt hbw2 (Nat.le_refl _))).mono ?_
      rintro e w3 ⟨B, d, rfl, hown, hb3⟩
      rw [casts_length]
      obtain ⟨⟨s0, s1⟩, ⟨t0, t1⟩⟩ := res_keep j0 j1 f0 f1 hb3
      clear j0 j1 f0 f1
      go_wp2
      refine bodyPost_ret (v := .tuple #[.agg #[.int .i64 (W.length : Int), .slice B (renW W os).length d], .bool true]) (by simp [results, Try.results49, go_sem, s0, s1]) rfl ⟨B, d, ?_, ?_, ?_⟩
      · rw [casts_length]
      · refine Own.mono (Own.setCell (Own.setCell hown ?_ _) ?_ _) hbw2.size (by simp)
        all_goals (left; show w.heap.size + 1 < w2.heap.size; omega)
      · refine ((below_trans hbw2 hb3).setCell ?_ _).setCell ?_ _
        all_goals (show _ ≤ _; simp)
end Go.Proofs.Ytfjofnmdmdejpaa
