/- IsTransitive, TransitiveOrder, walked. -/
import Derived.Test.YtboekpmaefcmdaaStrong
namespace Go.Proofs.Ytboekpmaefcmdaa
open Go.RowKit

def traB (W : List Nat) : Bool := decide ((triRows W).length = 0)
theorem traB_parts (W : List Nat) (hT : IsT W) : traB W = decide ((casts (spL W (2 ^ W.length - 1))).length = W.length) := by
  unfold traB
  rw [casts_length, Bool.eq_iff_iff, decide_eq_true_eq, decide_eq_true_eq, parts_all hT, List.length_eq_zero_iff]
def rIsTransitive (s : Int) (zs : List Int) : Bool := if okB s zs then traB (toW zs) else false
theorem sIsTransitive_any (A : Option Addr) (c : Nat) (s : Int) (zs : List Int) (w : World) (h : Row w w.heap.size A (ints zs)) (hl : zs.length ≤ 1099511627776) :
    Calls Try.prog 15 #[.agg #[.int .i64 s, .slice A zs.length c]] w fun e w' => e = .returned (.bool (rIsTransitive s zs)) ∧ Below w.heap.size w w' := by
  cases ho : okB s zs with
  | false =>
    have N : Hid (rIsTransitive s zs = (false)) := Lib.hid (by unfold rIsTransitive; rw [ho]; rfl)
    have HO := Lib.hid ho
    clear ho
    go_enter Try.func15, Try.ntmps15
    go_wp2_with fail
    refine (sTourOk_any A c s zs _ (h.rowAt (by go_grown) (Nat.le_refl _)) hl).mono ?_
    rw [HO.out]
    rintro e w1 ⟨rfl, hb⟩
    obtain ⟨k0, k1, hbw, hsz⟩ := box1 hb
    clear hb
    go_wp2
    go_ret
    exact ⟨ret_bool N.out.symm, hbw⟩
  | true =>
    obtain ⟨W, rfl, rfl, hT⟩ := ok_tour ho
    have R : Hid (rIsTransitive (W.length : Int) (casts W) = (traB W)) := Lib.hid (by unfold rIsTransitive; rw [ho, toW_casts]; rfl)
    have g1 := hT.h1
    have g8 := hT.h8
    rw [casts_length]
    clear ho hl
    go_enter Try.func15, Try.ntmps15
    go_wp2_with fail
    refine (sTourOkW A c W _ hT (h.rowAt (by go_grown) (Nat.le_refl _))).mono ?_
    rintro e w1 ⟨rfl, hb⟩
    obtain ⟨k0, k1, hbw, hsz⟩ := box1 hb
    have h := h.rowAt hbw (Nat.le_refl _)
    clear hb
    have hle := triRows_le W g8
    have HE : Hid (traB W = decide ((triRows W).length = 0)) := Lib.hid rfl
    go_wp2_with fail
    refine (l04All_any A c W _ hT h).mono ?_
    rintro e w2 ⟨B, d, rfl, hoB, hb2⟩
    clear hoB
    generalize (triRows W).length = m at *
    have hd : ((m : Int) == 0) = decide (m = 0) := by rw [Bool.eq_iff_iff, beq_iff_eq, decide_eq_true_eq]; omega
    have HD := Lib.hid hd
    clear hd
    go_wp2
    go_ret
    exact ⟨ret_bool (by rw [R.out, HE.out, ← HD.out]), below_trans hbw hb2⟩
theorem iIsTransitive_any (A : Option Addr) (c : Nat) (s : Int) (zs : List Int) (w : World) (h : Row w w.heap.size A (ints zs)) (hl : zs.length ≤ 1099511627776) :
    Calls Try.prog 17 #[.agg #[.int .i64 s, .slice A zs.length c]] w fun e w' => e = .returned (.bool (rIsTransitive s zs)) ∧ Below w.heap.size w w' := by
  cases ho : okB s zs with
  | false =>
    have N : Hid (rIsTransitive s zs = false) := Lib.hid (by unfold rIsTransitive; rw [ho]; rfl)
    have HC := Lib.hid (fun W' hr => iTourOk_any A c s zs W' hr hl)
    have HO := Lib.hid ho
    clear ho
    go_enter Try.func17, Try.ntmps17
    go_wp2
    obtain ⟨w1, hw1⟩ : ∃ w1, w1 = w.alloc (.cells #[.int .i64 s, .slice A zs.length c] 27) := ⟨_, rfl⟩
    rw [← hw1]
    have c0 : w1.cell? ⟨w.heap.size, 0, none⟩ = some (.int .i64 s) := by rw [hw1]; go_simp
    have c1 : w1.cell? ⟨w.heap.size, 1, none⟩ = some (.slice A zs.length c) := by rw [hw1]; go_simp
    have hbw : Below w.heap.size w w1 := by rw [hw1]; go_grown
    have h := h.rowAt hbw (Nat.le_refl _)
    have hv : Below w1.heap.size w1 w1 := Below.refl _ _
    clear hw1
    refine wp_region_held_drew (S := fun w' => Below w1.heap.size w1 w' ∧ w'.cell? ⟨w.heap.size, 0, none⟩ = some (.int .i64 s) ∧ w'.cell? ⟨w.heap.size, 1, none⟩ = some (.slice A zs.length c)) (by kernel_rfl) ?_ (fun hHeld => ?_)
    · (try dsimp only); first | exact ⟨hv, c0, c1⟩ | exact ⟨hv.drew, c0, c1⟩
    refine wpAnyH_take (i := 0) (v := ?_) rfl (by kernel_rfl) (by kernel_rfl) (by kernel_rfl) (fun _ _ _ h => h) (Or.inl ⟨by rfl, ?_⟩) (by assumption) ?_
    rotate_left
    · (intro wq hSw; (try dsimp only at hSw); (go_simp <;> with_reducible rfl))
    try simp only [Act.put, List.getElem_toArray, List.getElem_cons_zero, List.getElem_cons_succ, List.setIfInBounds_toArray, List.set_cons_zero, List.set_cons_succ]
    refine wpAnyH_ready (rs := [1]) (by kernel_rfl) (by simp) ?_
    refine AllReadyH.cons rfl (fun K hK => ?_) AllReadyH.nil
    go_simp
    (go_at_call 60; refine (HC.out _ (h.rowAt (by first | exact hv | exact hv.drew) (Nat.le_refl _))).mono ?_; rw [HO.out]; rintro e wv ⟨rfl, hbv⟩; obtain ⟨hv, c0, c1⟩ : Below w1.heap.size w1 wv ∧ wv.cell? ⟨w.heap.size, 0, none⟩ = some (.int .i64 s) ∧ wv.cell? ⟨w.heap.size, 1, none⟩ = some (.slice A zs.length c) := (by first | exact sf_next ⟨hv, c0, c1⟩ hbv | exact sf_next ⟨hv.drew, c0, c1⟩ hbv))
    go_wp2_with fail
    refine hK.out _ _ ?_ (fun hHeld => ?_)
    · (try dsimp only); first | exact ⟨hv, c0, c1⟩ | exact ⟨hv.drew, c0, c1⟩
    clear hK K
    try simp only [Act.put, List.getElem_toArray, List.getElem_cons_zero, List.getElem_cons_succ, List.setIfInBounds_toArray, List.set_cons_zero, List.set_cons_succ]
    refine wpAnyH_take (i := 2) (v := ?_) rfl (by kernel_rfl) (by kernel_rfl) (by kernel_rfl) (fun _ _ _ h => h) (Or.inl ⟨by rfl, ?_⟩) (by assumption) ?_
    rotate_left
    · (intro wq hSw; (try dsimp only at hSw); (go_simp <;> with_reducible rfl))
    try simp only [Act.put, List.getElem_toArray, List.getElem_cons_zero, List.getElem_cons_succ, List.setIfInBounds_toArray, List.set_cons_zero, List.set_cons_succ]
    refine wpAnyH_take (i := 3) (v := undef) rfl (by kernel_rfl) (by kernel_rfl) (by kernel_rfl) (fun _ _ _ h => h) (Or.inr ⟨by rfl, rfl⟩) (by assumption) ?_
    try simp only [Act.put, List.getElem_toArray, List.getElem_cons_zero, List.getElem_cons_succ, List.setIfInBounds_toArray, List.set_cons_zero, List.set_cons_succ]
    refine wpAnyH_take (i := 4) (v := undef) rfl (by kernel_rfl) (by kernel_rfl) (by kernel_rfl) (fun _ _ _ h => h) (Or.inr ⟨by rfl, rfl⟩) (by assumption) ?_
    try simp only [Act.put, List.getElem_toArray, List.getElem_cons_zero, List.getElem_cons_succ, List.setIfInBounds_toArray, List.set_cons_zero, List.set_cons_succ]
    refine wpAnyH_take (i := 5) (v := undef) rfl (by kernel_rfl) (by kernel_rfl) (by kernel_rfl) (fun _ _ _ h => h) (Or.inr ⟨by rfl, rfl⟩) (by assumption) ?_
    try simp only [Act.put, List.getElem_toArray, List.getElem_cons_zero, List.getElem_cons_succ, List.setIfInBounds_toArray, List.set_cons_zero, List.set_cons_succ]
    refine wpAnyH_take (i := 6) (v := undef) rfl (by kernel_rfl) (by kernel_rfl) (by kernel_rfl) (fun _ _ _ h => h) (Or.inr ⟨by rfl, rfl⟩) (by assumption) ?_
    try simp only [Act.put, List.getElem_toArray, List.getElem_cons_zero, List.getElem_cons_succ, List.setIfInBounds_toArray, List.set_cons_zero, List.set_cons_succ]
    refine wpAnyH_take (i := 7) (v := undef) rfl (by kernel_rfl) (by kernel_rfl) (by kernel_rfl) (fun _ _ _ h => h) (Or.inr ⟨by rfl, rfl⟩) (by assumption) ?_
    try simp only [Act.put, List.getElem_toArray, List.getElem_cons_zero, List.getElem_cons_succ, List.setIfInBounds_toArray, List.set_cons_zero, List.set_cons_succ]
    refine wpAnyH_take (i := 8) (v := undef) rfl (by kernel_rfl) (by kernel_rfl) (by kernel_rfl) (fun _ _ _ h => h) (Or.inr ⟨by rfl, rfl⟩) (by assumption) ?_
    try simp only [Act.put, List.getElem_toArray, List.getElem_cons_zero, List.getElem_cons_succ, List.setIfInBounds_toArray, List.set_cons_zero, List.set_cons_succ]
    refine wpAnyH_take (i := 9) (v := ?_) rfl (by kernel_rfl) (by kernel_rfl) (by kernel_rfl) (fun _ _ _ h => h) (Or.inl ⟨by rfl, ?_⟩) (by assumption) ?_
    rotate_left
    · (intro wq hSw; (try dsimp only at hSw); (go_simp <;> with_reducible rfl))
    try simp only [Act.put, List.getElem_toArray, List.getElem_cons_zero, List.getElem_cons_succ, List.setIfInBounds_toArray, List.set_cons_zero, List.set_cons_succ]
    refine wpAnyH_take (i := 10) (v := ?_) rfl (by kernel_rfl) (by kernel_rfl) (by kernel_rfl) (fun _ _ _ h => h) (Or.inl ⟨by rfl, ?_⟩) (by assumption) ?_
    rotate_left
    · (intro wq hSw; (try dsimp only at hSw); (go_simp <;> with_reducible rfl))
    try simp only [Act.put, List.getElem_toArray, List.getElem_cons_zero, List.getElem_cons_succ, List.setIfInBounds_toArray, List.set_cons_zero, List.set_cons_succ]
    refine wpAnyH_done (by kernel_rfl) ?_ _
    go_wp2
    go_ret
    exact ⟨ret_bool N.out.symm, below_trans hbw hv⟩
  | true =>
    obtain ⟨W, rfl, rfl, hT⟩ := ok_tour ho
    have R : Hid (rIsTransitive (W.length : Int) (casts W) = traB W) := Lib.hid (by unfold rIsTransitive; rw [ho, toW_casts]; rfl)
    have g1 := hT.h1
    have g8 := hT.h8
    rw [casts_length]
    clear ho hl
    have HC := Lib.hid (fun W' hr => iTourOkW A c W W' hT hr)
    have HP := Lib.hid (fun W' hr => parts_any A c W W' hT hr)
    have HE := Lib.hid (traB_parts W hT)
    have hsl := spL_len W hT
    generalize hm : (casts (spL W (2 ^ W.length - 1))).length = m at *
    have HM := Lib.hid hm
    clear hm
    have hd : ((m : Int) == (W.length : Int)) = decide (m = W.length) := by rw [Bool.eq_iff_iff, beq_iff_eq, decide_eq_true_eq]; omega
    have HD := Lib.hid hd
    clear hd
    go_enter Try.func17, Try.ntmps17
    go_wp2
    obtain ⟨w1, hw1⟩ : ∃ w1, w1 = w.alloc (.cells #[.int .i64 (W.length : Int), .slice A W.length c] 27) := ⟨_, rfl⟩
    rw [← hw1]
    have c0 : w1.cell? ⟨w.heap.size, 0, none⟩ = some (.int .i64 (W.length : Int)) := by rw [hw1]; go_simp
    have c1 : w1.cell? ⟨w.heap.size, 1, none⟩ = some (.slice A W.length c) := by rw [hw1]; go_simp
    have hbw : Below w.heap.size w w1 := by rw [hw1]; go_grown
    have h := h.rowAt hbw (Nat.le_refl _)
    have hv : Below w1.heap.size w1 w1 := Below.refl _ _
    clear hw1
    go_region_held3 (fun w' => Below w1.heap.size w1 w' ∧ w'.cell? ⟨w.heap.size, 0, none⟩ = some (.int .i64 (W.length : Int)) ∧ w'.cell? ⟨w.heap.size, 1, none⟩ = some (.slice A W.length c))
      (first | exact ⟨hv, c0, c1⟩ | exact ⟨hv.drew, c0, c1⟩)
      (first
        | (go_at_call 60; refine (HC.out _ (h.rowAt (by first | exact hv | exact hv.drew) (Nat.le_refl _))).mono ?_; rintro e wv ⟨rfl, hbv⟩; obtain ⟨hv, c0, c1⟩ : Below w1.heap.size w1 wv ∧ wv.cell? ⟨w.heap.size, 0, none⟩ = some (.int .i64 (W.length : Int)) ∧ wv.cell? ⟨w.heap.size, 1, none⟩ = some (.slice A W.length c) := (by first | exact sf_next ⟨hv, c0, c1⟩ hbv | exact sf_next ⟨hv.drew, c0, c1⟩ hbv))
        | (go_at_call 61; refine (HP.out _ (h.rowAt (by first | exact hv | exact hv.drew) (Nat.le_refl _))).mono ?_; rintro e wz ⟨B, d, rfl, hoB, hbv⟩; rw [HM.out]; obtain ⟨hv, c0, c1⟩ : Below w1.heap.size w1 wz ∧ wz.cell? ⟨w.heap.size, 0, none⟩ = some (.int .i64 (W.length : Int)) ∧ wz.cell? ⟨w.heap.size, 1, none⟩ = some (.slice A W.length c) := (by first | exact sf_next ⟨hv, c0, c1⟩ hbv | exact sf_next ⟨hv.drew, c0, c1⟩ hbv)))
    go_wp2
    go_ret
    exact ⟨ret_bool (by rw [R.out, HE.out, ← HD.out]), below_trans hbw hv⟩
end Go.Proofs.Ytboekpmaefcmdaa
