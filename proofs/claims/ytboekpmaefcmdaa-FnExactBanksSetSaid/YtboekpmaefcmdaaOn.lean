/- The tour of a set is a tour; isTransitiveOn, LargestTransitive, walked. -/
import Derived.Test.YtboekpmaefcmdaaTrans
import Derived.Test.YtboekpmaefcmdaaPart
namespace Go.Proofs.Ytboekpmaefcmdaa
open Go.RowKit

theorem rowsOf_getD (n : Nat) (f : Nat → Nat → Bool) (i : Nat) : (rowsOf n f).getD i 0 = if i < n then ofB n (hb f i) else 0 := by
  by_cases hi : i < n
  · rw [if_pos hi, getD_lt _ _ _ (by rw [rowsOf_length]; exact hi)]
    simp [rowsOf]
  · rw [if_neg hi, List.getD, List.getElem?_eq_none (by rw [rowsOf_length]; omega)]
    rfl
theorem bt_rowsOf (n : Nat) (f : Nat → Nat → Bool) (i j : Nat) : bt (rowsOf n f) i j = (decide (i < n) && (decide (j < n) && (decide (i ≠ j) && f i j))) := by
  unfold bt
  rw [rowsOf_getD]
  by_cases hi : i < n
  · rw [if_pos hi, testBit_ofB, decide_eq_true hi]
    rfl
  · rw [if_neg hi, decide_eq_false hi]
    simp
theorem rowsOf_ok (n : Nat) (f : Nat → Nat → Bool) (h1 : 1 ≤ n) (h8 : n ≤ 8) (hf : ∀ i j, i < n → j < n → i ≠ j → f i j = !f j i) : IsT (rowsOf n f) := by
  refine ⟨by rw [rowsOf_length]; exact h1, by rw [rowsOf_length]; exact h8, fun i => ?_, fun a => ?_, fun a b ha hb hab => ?_⟩
  · rw [rowsOf_getD, rowsOf_length]
    split
    · exact ofB_lt _ _
    · exact Nat.two_pow_pos _
  · rw [bt_rowsOf]; simp
  · rw [rowsOf_length] at ha hb
    rw [bt_rowsOf, bt_rowsOf, decide_eq_true ha, decide_eq_true hb, decide_eq_true hab, decide_eq_true (show b ≠ a from fun h => hab h.symm), hf a b ha hb hab]
    simp
theorem mem_nodup (n x : Nat) : (mem n x).Nodup := List.Nodup.sublist (List.filter_sublist) List.nodup_range
theorem mem_getD_ne (x : Nat) {i j : Nat} (hi : i < (mem 8 x).length) (hj : j < (mem 8 x).length) (h : i ≠ j) : (mem 8 x).getD i 0 ≠ (mem 8 x).getD j 0 := fun e => by
  rw [getD_lt _ _ _ hi, getD_lt _ _ _ hj] at e
  exact h ((List.getElem_inj (mem_nodup 8 x)).1 e)
theorem partW_ok {W : List Nat} (hT : IsT W) {y : Nat} (h0 : 0 < y) (hy : y < 2 ^ W.length) : IsT (partW W y) :=
  rowsOf_ok _ _ (mem_pos W.length y h0 hy hT.h8) (mem_le8 y) fun i j hi hj hij =>
    hT.pair _ _ (mem_bt W.length y hy i hi) (mem_bt W.length y hy j hj) (mem_getD_ne y hi hj hij)
/-- The tour of the players of y has no triangle. -/
def onB (W : List Nat) (y : Nat) : Bool := traB (partW W y)
theorem part_facts {W : List Nat} (hT : IsT W) {y : Nat} (h0 : 0 < y) (hy : y < 2 ^ W.length) :
    tPartTour (W.length : Int) (casts W) (y : Int) = ((partW W y).length : Int) ∧ rPartTour (W.length : Int) (casts W) (y : Int) = casts (partW W y) ∧ bPartTour (W.length : Int) (casts W) (y : Int) = true := by
  have hp : pOk (W.length : Int) (casts W) (y : Int) = true := by
    unfold pOk
    rw [tour_ok hT, casts_length, pow_cast]
    have := Nat.two_pow_pos W.length
    simp only [Bool.true_and, Bool.and_eq_true, decide_eq_true_eq]
    omega
  unfold tPartTour rPartTour bPartTour
  rw [hp, if_pos rfl, if_pos rfl, toW_casts, Int.toNat_natCast, partW_length]
  exact ⟨rfl, rfl, rfl⟩
/-- PartTour of a set that is not empty. -/
def PartOf (W : List Nat) (y : Nat) (w : World) (e : Ending) (w' : World) : Prop :=
  ∃ B d, e = .returned (.tuple #[.agg #[.int .i64 ((partW W y).length : Int), .slice B (partW W y).length d], .bool true]) ∧ Own w' w.heap.size w'.heap.size 3 B d (ints (casts (partW W y))) ∧ Below w.heap.size w w'
theorem wf_small (y : Nat) (h : y < 256) : (Lit.int .i64 (y : Int)).wf = true := by
  exact WalkArith.wf_i64 (by omega)
theorem iPartTourW (A : Option Addr) (c : Nat) (W : List Nat) (y : Nat) (w : World) (hT : IsT W) (h : Row w w.heap.size A (ints (casts W))) (h0 : 0 < y) (hy : y < 2 ^ W.length) :
    Calls Try.prog 120 #[.agg #[.int .i64 (W.length : Int), .slice A W.length c], .int .i64 (y : Int)] w (PartOf W y w) := by
  have h8 := pow_le8 W.length hT.h8
  have hx := iPartTour_any A c (W.length : Int) (casts W) (y : Int) w h (by rw [casts_length]; have := hT.h8; omega) (wf_small y (by omega))
  rw [casts_length] at hx
  obtain ⟨e1, e2, e3⟩ := part_facts hT h0 hy
  rw [e1, e2, e3] at hx
  refine hx.mono ?_
  rintro e w' ⟨B, d, rfl, ho, hb⟩
  exact ⟨B, d, by rw [casts_length], ho, hb⟩
theorem sPartTourW (A : Option Addr) (c : Nat) (W : List Nat) (y : Nat) (w : World) (hT : IsT W) (h : Row w w.heap.size A (ints (casts W))) (h0 : 0 < y) (hy : y < 2 ^ W.length) :
    Calls Try.prog 73 #[.agg #[.int .i64 (W.length : Int), .slice A W.length c], .int .i64 (y : Int)] w (PartOf W y w) := by
  have h8 := pow_le8 W.length hT.h8
  have hx := sPartTour_any A c (W.length : Int) (casts W) (y : Int) w h (by rw [casts_length]; have := hT.h8; omega) (wf_small y (by omega))
  rw [casts_length] at hx
  obtain ⟨e1, e2, e3⟩ := part_facts hT h0 hy
  rw [e1, e2, e3] at hx
  refine hx.mono ?_
  rintro e w' ⟨B, d, rfl, ho, hb⟩
  exact ⟨B, d, by rw [casts_length], ho, hb⟩
theorem isTransitiveOn_any (A : Option Addr) (c : Nat) (W : List Nat) (y : Nat) (w : World) (hT : IsT W) (h : Row w w.heap.size A (ints (casts W))) (h0 : 0 < y) (hy : y < 2 ^ W.length) :
    Calls Try.prog 76 #[.agg #[.int .i64 (W.length : Int), .slice A W.length c], .int .i64 (y : Int)] w fun e w' => e = .returned (.bool (onB W y)) ∧ Below w.heap.size w w' := by
  have hTp := partW_ok hT h0 hy
  have HE := Lib.hid (traB_parts (partW W y) hTp)
  have hsl := spL_len (partW W y) hTp
  have hp8 := hTp.h8
  generalize hm : (casts (spL (partW W y) (2 ^ (partW W y).length - 1))).length = m at *
  have HM := Lib.hid hm
  clear hm
  have hd : ((m : Int) == ((partW W y).length : Int)) = decide (m = (partW W y).length) := by rw [Bool.eq_iff_iff, beq_iff_eq, decide_eq_true_eq]; omega
  have HD := Lib.hid hd
  clear hd
  go_enter Try.func76, Try.ntmps76
  go_wp2_with fail
  refine (iPartTourW A c W y _ hT (h.rowAt (by go_grown) (Nat.le_refl _)) h0 hy).mono ?_
  rintro e w1 ⟨B, d, rfl, ho, hb⟩
  obtain ⟨k0, k1, hbw, hsz⟩ := box1 hb
  have hR : Row w1 w1.heap.size B (ints (casts (partW W y))) := ho.row
  have HP := Lib.hid (fun W' hr => parts_any B d (partW W y) W' hTp hr)
  clear ho hb
  go_wp2
  obtain ⟨w2, hw2⟩ : ∃ w2, w2 = w1.alloc (.cells #[.int .i64 ((partW W y).length : Int), .slice B (partW W y).length d] 27) := ⟨_, rfl⟩
  rw [← hw2]
  have c0 : w2.cell? ⟨w1.heap.size, 0, none⟩ = some (.int .i64 ((partW W y).length : Int)) := by rw [hw2]; go_simp
  have c1 : w2.cell? ⟨w1.heap.size, 1, none⟩ = some (.slice B (partW W y).length d) := by rw [hw2]; go_simp
  have hb2 : Below w1.heap.size w1 w2 := by rw [hw2]; go_grown
  have hR := hR.rowAt hb2 (Nat.le_refl _)
  have hv : Below w2.heap.size w2 w2 := Below.refl _ _
  clear hw2 k0 k1
  go_region_held3 (fun w' => Below w2.heap.size w2 w' ∧ w'.cell? ⟨w1.heap.size, 0, none⟩ = some (.int .i64 ((partW W y).length : Int)) ∧ w'.cell? ⟨w1.heap.size, 1, none⟩ = some (.slice B (partW W y).length d))
    (first | exact ⟨hv, c0, c1⟩ | exact ⟨hv.drew, c0, c1⟩)
    ((go_at_call 61; refine (HP.out _ (hR.rowAt (by first | exact hv | exact hv.drew) (Nat.le_refl _))).mono ?_; rintro e wz ⟨Bz, dz, rfl, hoz, hbv⟩; rw [HM.out]; obtain ⟨hv, c0, c1⟩ : Below w2.heap.size w2 wz ∧ wz.cell? ⟨w1.heap.size, 0, none⟩ = some (.int .i64 ((partW W y).length : Int)) ∧ wz.cell? ⟨w1.heap.size, 1, none⟩ = some (.slice B (partW W y).length d) := (by first | exact sf_next ⟨hv, c0, c1⟩ hbv | exact sf_next ⟨hv.drew, c0, c1⟩ hbv)))
  go_wp2
  go_ret
  exact ⟨ret_bool (by unfold onB; rw [HE.out, ← HD.out]), below_trans hbw (below_trans hb2 hv)⟩
/-- The greatest transitive set below k, the first one. -/
def lgJ (W : List Nat) : Nat → Nat
  | 0 => 0
  | j + 1 => if decide (pc 8 (lgJ W j) < pc 8 (j + 1)) && onB W (j + 1) then j + 1 else lgJ W j
theorem lgJ_yes (W : List Nat) (j : Nat) (h1 : pc 8 (lgJ W j) < pc 8 (j + 1)) (h2 : onB W (j + 1) = true) : lgJ W (j + 1) = j + 1 := by rw [lgJ, decide_eq_true h1, h2]; rfl
theorem lgJ_no (W : List Nat) (j : Nat) (h : pc 8 (lgJ W j) < pc 8 (j + 1) → onB W (j + 1) = false) : lgJ W (j + 1) = lgJ W j := by
  rw [lgJ]
  by_cases h1 : pc 8 (lgJ W j) < pc 8 (j + 1)
  · rw [h h1]; simp
  · rw [decide_eq_false h1]; rfl
theorem lgJ_le (W : List Nat) (j : Nat) : lgJ W j ≤ j := by
  induction j with
  | zero => exact Nat.le_refl _
  | succ j ih => rw [lgJ]; split <;> omega
def rLargestTransitive (s : Int) (zs : List Int) : Int := if okB s zs then (lgJ (toW zs) (2 ^ (toW zs).length - 1) : Nat) else 0
set_option maxHeartbeats 800000 in
theorem iLargestTransitive_any (A : Option Addr) (c : Nat) (s : Int) (zs : List Int) (w : World) (h : Row w w.heap.size A (ints zs)) (hl : zs.length ≤ 1099511627776) :
    Calls Try.prog 33 #[.agg #[.int .i64 s, .slice A zs.length c]] w fun e w' => e = .returned (.int .i64 (rLargestTransitive s zs)) ∧ Below w.heap.size w w' := by
  cases ho : okB s zs with
  | false =>
    have N : Hid (rLargestTransitive s zs = (0)) := Lib.hid (by unfold rLargestTransitive; rw [ho]; rfl)
    have HO := Lib.hid ho
    clear ho
    go_enter Try.func33, Try.ntmps33
    go_wp2_with fail
    refine (iTourOk_any A c s zs _ (h.rowAt (by go_grown) (Nat.le_refl _)) hl).mono ?_
    rw [HO.out]
    rintro e w1 ⟨rfl, hb⟩
    obtain ⟨k0, k1, hbw, hsz⟩ := box1 hb
    clear hb
    go_wp2
    go_ret
    exact ⟨ret_int N.out.symm, hbw⟩
  | true =>
    obtain ⟨W, rfl, rfl, hT⟩ := ok_tour ho
    have R : Hid (rLargestTransitive (W.length : Int) (casts W) = (((lgJ W (2 ^ W.length - 1) : Nat) : Int))) := Lib.hid (by unfold rLargestTransitive; rw [ho, toW_casts]; rfl)
    have g1 := hT.h1
    have g8 := hT.h8
    rw [casts_length]
    clear ho hl
    go_enter Try.func33, Try.ntmps33
    go_wp2_with fail
    refine (iTourOkW A c W _ hT (h.rowAt (by go_grown) (Nat.le_refl _))).mono ?_
    rintro e w1 ⟨rfl, hb⟩
    obtain ⟨k0, k1, hbw, hsz⟩ := box1 hb
    have h := h.rowAt hbw (Nat.le_refl _)
    clear hb
    obtain ⟨p1, p2⟩ := pow_bd W.length g1 g8
    have hp2 : 2 ≤ 2 ^ W.length := by have : (2 : Nat) ^ 1 ≤ 2 ^ W.length := Nat.pow_le_pow_right (by omega) g1; omega
    have HPN := Lib.hid (pow_cast W.length)
    have HP8 := Lib.hid (pow_le8 W.length g8)
    have hq : (1 : Int) * 2 ^ W.length = 2 ^ W.length := by omega
    go_wp2
    go_loopw [3, 4] (fun v i wr => ∃ j : Nat, j + 1 ≤ 2 ^ W.length ∧ i = .int .i64 ((j + 1 : Nat) : Int) ∧ v = .int .i64 (lgJ W j : Nat) ∧ Below w1.heap.size w1 wr) (fun _ i _ => 2 ^ W.length - (intOf i).toNat)
    case atStart => exact ⟨0, by omega, rfl, by rw [lgJ]; rfl, Below.refl _ _⟩
    case round =>
      obtain ⟨j, hj, rfl, rfl, hb⟩ := hrel
      obtain ⟨c0, c1⟩ := held_at k0 k1 hb
      by_cases hlt : j + 1 < 2 ^ W.length
      · have hlt' : (j : Int) + 1 < 2 ^ W.length := by have := HPN.out; omega
        have hl := lgJ_le W j
        have h256 := HP8.out
        have HY := Lib.hid (lgJ_yes W j)
        have HN := Lib.hid (lgJ_no W j)
        have e1 : ((j + 1 : Nat) : Int) = (j : Int) + 1 := rfl
        have hpc := pc_le 8 (j + 1)
        have hpq := pc_le 8 (lgJ W j)
        generalize hbs : lgJ W j = bs at *
        go_wp2_with fail
        refine (onesCount_any ((j + 1 : Nat) : Int) _ (by omega) (by omega)).mono ?_
        rw [Int.toNat_natCast]
        rintro e w' ⟨rfl, rfl⟩
        go_wp2_with fail
        refine (onesCount_any (bs : Int) _ (by omega) (by omega)).mono ?_
        rw [Int.toNat_natCast]
        rintro e w' ⟨rfl, rfl⟩
        by_cases h1 : pc 8 bs < pc 8 (j + 1)
        · cases h2 : onB W (j + 1) with
          | true =>
            have HJ := Lib.hid (HY.out h1 h2)
            generalize pc 8 (j + 1) = p at *
            generalize pc 8 bs = q at *
            go_wp2_with fail
            refine (isTransitiveOn_any A c W (j + 1) _ hT (h.rowAt hb (Nat.le_refl _)) (by omega) hlt).mono ?_
            rw [h2]
            rintro e w' ⟨rfl, hbq⟩
            have hb2 := below_trans hb hbq
            go_wp2
            go_roundw
            case rel => exact ⟨j + 1, by omega, by go_num, (by rw [HJ.out]; try rfl), hb2⟩
            case measure => simp [intOf]; omega
          | false =>
            have HJ := Lib.hid (HN.out fun _ => h2)
            generalize pc 8 (j + 1) = p at *
            generalize pc 8 bs = q at *
            go_wp2_with fail
            refine (isTransitiveOn_any A c W (j + 1) _ hT (h.rowAt hb (Nat.le_refl _)) (by omega) hlt).mono ?_
            rw [h2]
            rintro e w' ⟨rfl, hbq⟩
            have hb2 := below_trans hb hbq
            go_wp2
            go_roundw
            case rel => exact ⟨j + 1, by omega, by go_num, (by rw [HJ.out]; try rfl), hb2⟩
            case measure => simp [intOf]; omega
        · have HJ := Lib.hid (HN.out fun x => absurd x h1)
          generalize pc 8 (j + 1) = p at *
          generalize pc 8 bs = q at *
          go_wp2
          go_roundw
          case rel => exact ⟨j + 1, by omega, by go_num, (by rw [HJ.out]; try rfl), hb⟩
          case measure => simp [intOf]; omega
      · have hlt' : ¬ (j : Int) + 1 < 2 ^ W.length := by have := HPN.out; omega
        have EJ := Lib.hid (show 2 ^ W.length - 1 = j by omega)
        have e1 : ((j + 1 : Nat) : Int) = (j : Int) + 1 := rfl
        go_wp2
        go_ret
        exact ⟨ret_int (by rw [R.out, EJ.out]), below_trans hbw hb⟩
set_option maxHeartbeats 800000 in
theorem sLargestTransitive_any (A : Option Addr) (c : Nat) (s : Int) (zs : List Int) (w : World) (h : Row w w.heap.size A (ints zs)) (hl : zs.length ≤ 1099511627776) :
    Calls Try.prog 32 #[.agg #[.int .i64 s, .slice A zs.length c]] w fun e w' => e = .returned (.int .i64 (rLargestTransitive s zs)) ∧ Below w.heap.size w w' := by
  cases ho : okB s zs with
  | false =>
    have N : Hid (rLargestTransitive s zs = (0)) := Lib.hid (by unfold rLargestTransitive; rw [ho]; rfl)
    have HO := Lib.hid ho
    clear ho
    go_enter Try.func32, Try.ntmps32
    go_wp2_with fail
    refine (sTourOk_any A c s zs _ (h.rowAt (by go_grown) (Nat.le_refl _)) hl).mono ?_
    rw [HO.out]
    rintro e w1 ⟨rfl, hb⟩
    obtain ⟨k0, k1, hbw, hsz⟩ := box1 hb
    clear hb
    go_wp2
    go_ret
    exact ⟨ret_int N.out.symm, hbw⟩
  | true =>
    obtain ⟨W, rfl, rfl, hT⟩ := ok_tour ho
    have R : Hid (rLargestTransitive (W.length : Int) (casts W) = (((lgJ W (2 ^ W.length - 1) : Nat) : Int))) := Lib.hid (by unfold rLargestTransitive; rw [ho, toW_casts]; rfl)
    have g1 := hT.h1
    have g8 := hT.h8
    rw [casts_length]
    clear ho hl
    go_enter Try.func32, Try.ntmps32
    go_wp2_with fail
    refine (sTourOkW A c W _ hT (h.rowAt (by go_grown) (Nat.le_refl _))).mono ?_
    rintro e w1 ⟨rfl, hb⟩
    obtain ⟨k0, k1, hbw, hsz⟩ := box1 hb
    have h := h.rowAt hbw (Nat.le_refl _)
    clear hb
    obtain ⟨p1, p2⟩ := pow_bd W.length g1 g8
    have hp2 : 2 ≤ 2 ^ W.length := by have : (2 : Nat) ^ 1 ≤ 2 ^ W.length := Nat.pow_le_pow_right (by omega) g1; omega
    have HPN := Lib.hid (pow_cast W.length)
    have HP8 := Lib.hid (pow_le8 W.length g8)
    go_wp2
    go_loopw [3, 4] (fun v i wr => ∃ j : Nat, j + 1 ≤ 2 ^ W.length ∧ i = .int .i64 ((j + 1 : Nat) : Int) ∧ v = .int .i64 (lgJ W j : Nat) ∧ Below w1.heap.size w1 wr) (fun _ i _ => 2 ^ W.length - (intOf i).toNat)
    case atStart => exact ⟨0, by omega, rfl, by rw [lgJ]; rfl, Below.refl _ _⟩
    case round =>
      obtain ⟨j, hj, rfl, rfl, hb⟩ := hrel
      obtain ⟨c0, c1⟩ := held_at k0 k1 hb
      go_wp2_with fail
      refine (l02All_any A c W.length _ g1 g8).mono ?_
      rintro e wa ⟨rfl, hba⟩
      have hb := below_trans hb hba
      obtain ⟨c0, c1⟩ := held_at k0 k1 hb
      by_cases hlt : j + 1 < 2 ^ W.length
      · have hlt' : (j : Int) + 1 ≤ 2 ^ W.length - 1 := by have := HPN.out; omega
        have hl := lgJ_le W j
        have h256 := HP8.out
        have HY := Lib.hid (lgJ_yes W j)
        have HN := Lib.hid (lgJ_no W j)
        have e1 : ((j + 1 : Nat) : Int) = (j : Int) + 1 := rfl
        have hpc := pc_le 8 (j + 1)
        have hpq := pc_le 8 (lgJ W j)
        have hTp := partW_ok hT (Nat.succ_pos j) hlt
        have HTp := Lib.hid hTp
        have hp9 := hTp.h8
        generalize hbs : lgJ W j = bs at *
        go_wp2_with fail
        refine (sPartTourW A c W (j + 1) _ hT (h.rowAt hb (Nat.le_refl _)) (Nat.succ_pos j) hlt).mono ?_
        rintro e wp ⟨B, d, rfl, hoP, hbp⟩
        have hb2 := below_trans hb hbp
        obtain ⟨c0, c1⟩ := held_at k0 k1 hb2
        have hRP : Row wp wp.heap.size B (ints (casts (partW W (j + 1)))) := hoP.row
        have hTR := triRows_le (partW W (j + 1)) hp9
        have HON : Hid (onB W (j + 1) = decide ((triRows (partW W (j + 1))).length = 0)) := Lib.hid rfl
        have d0 : ∀ o, (wp.alloc o).cell? ⟨w.heap.size, 0, none⟩ = some (.int .i64 (W.length : Int)) := fun o => (World.cell?_alloc_lt wp o _ (World.block_lt_of_cell? _ _ c0)).trans c0
        have d1 : ∀ o, (wp.alloc o).cell? ⟨w.heap.size, 1, none⟩ = some (.slice A W.length c) := fun o => (World.cell?_alloc_lt wp o _ (World.block_lt_of_cell? _ _ c1)).trans c1
        have hbB : ∀ o, Below wp.heap.size wp (wp.alloc o) := fun o => (Below.refl _ _).alloc (Nat.le_refl _) o
        have HBB := Lib.hid hbB
        clear hoP hbB
        go_wp2_with fail
        refine (l02Bits_any ((j + 1 : Nat) : Int) _ (by omega) (by omega)).mono ?_
        rw [Int.toNat_natCast]
        rintro e w' ⟨rfl, rfl⟩
        go_wp2_with fail
        refine (l02Bits_any (bs : Int) _ (by omega) (by omega)).mono ?_
        rw [Int.toNat_natCast]
        rintro e w' ⟨rfl, rfl⟩
        by_cases h1 : pc 8 bs < pc 8 (j + 1)
        · generalize hpp : pc 8 (j + 1) = p at *
          generalize hqq : pc 8 bs = q at *
          clear hpp hqq
          go_wp2_with fail
          refine (l04All_any B d (partW W (j + 1)) _ HTp.out (hRP.rowAt (HBB.out _) (Nat.le_refl _))).mono ?_
          rintro e w5 ⟨T, dT, rfl, hoT, hbt⟩
          clear hoT
          have hb3 := below_trans hb2 (below_trans (HBB.out _) hbt)
          cases h2 : onB W (j + 1) with
          | true =>
            have HJ := Lib.hid (HY.out h1 h2)
            have hz := HON.out
            rw [h2] at hz
            have hz2 := of_decide_eq_true hz.symm
            have et : (((triRows (partW W (j + 1))).length : Int) == 0) = true := by rw [hz2]; rfl
            clear hz hz2
            generalize (triRows (partW W (j + 1))).length = m at *
            go_wp2
            go_roundw
            case rel => exact ⟨j + 1, by omega, by go_num, (by rw [HJ.out]; try rfl), hb3⟩
            case measure => simp [intOf]; omega
          | false =>
            have HJ := Lib.hid (HN.out fun _ => h2)
            have hz := HON.out
            rw [h2] at hz
            have hz2 := of_decide_eq_false hz.symm
            have et : (((triRows (partW W (j + 1))).length : Int) == 0) = false := by rw [beq_eq_false_iff_ne]; omega
            clear hz hz2
            generalize (triRows (partW W (j + 1))).length = m at *
            go_wp2
            go_roundw
            case rel => exact ⟨j + 1, by omega, by go_num, (by rw [HJ.out]; try rfl), hb3⟩
            case measure => simp [intOf]; omega
        · have HJ := Lib.hid (HN.out fun x => absurd x h1)
          generalize pc 8 (j + 1) = p at *
          generalize pc 8 bs = q at *
          go_wp2
          go_roundw
          case rel => exact ⟨j + 1, by omega, by go_num, (by rw [HJ.out]; try rfl), below_trans hb2 (HBB.out _)⟩
          case measure => simp [intOf]; omega
      · have hlt' : ¬ (j : Int) + 1 ≤ 2 ^ W.length - 1 := by have := HPN.out; omega
        have EJ := Lib.hid (show 2 ^ W.length - 1 = j by omega)
        have e1 : ((j + 1 : Nat) : Int) = (j : Int) + 1 := rfl
        go_wp2
        go_ret
        exact ⟨ret_int (by rw [R.out, EJ.out]), below_trans hbw hb⟩
end Go.Proofs.Ytboekpmaefcmdaa
