/- The least dominating set: LeastDominating, walked. -/
import Derived.Test.YtkdfjkocfejfjaaDom
import Derived.Test.YtkdfjkocfejfjaaScore
import Derived.Test.YtkdfjkocfejfjaaBits3
namespace Go.Proofs.Ytkdfjkocfejfjaa
open Go.RowKit

/-- The best set among 1 .. j, or all. -/
def ldJ (W : List Nat) : Nat → Nat
  | 0 => 2 ^ W.length - 1
  | j + 1 => if decide (pc 8 (j + 1) < pc 8 (ldJ W j)) && dom W (j + 1) then j + 1 else ldJ W j
theorem ldJ_yes (W : List Nat) (j : Nat) (h1 : pc 8 (j + 1) < pc 8 (ldJ W j)) (h2 : dom W (j + 1) = true) : ldJ W (j + 1) = j + 1 := by rw [ldJ, decide_eq_true h1, h2]; rfl
theorem ldJ_no (W : List Nat) (j : Nat) (h : pc 8 (j + 1) < pc 8 (ldJ W j) → dom W (j + 1) = false) : ldJ W (j + 1) = ldJ W j := by
  rw [ldJ]
  by_cases h1 : pc 8 (j + 1) < pc 8 (ldJ W j)
  · rw [h h1]; simp
  · rw [decide_eq_false h1]; simp
theorem ldJ_inv (W : List Nat) (j : Nat) : ldJ W j = 2 ^ W.length - 1 ∨ ldJ W j ≤ j := by
  induction j with
  | zero => exact .inl rfl
  | succ j ih =>
    unfold ldJ
    split
    · exact .inr (Nat.le_refl _)
    · rcases ih with h | h
      · exact .inl h
      · exact .inr (by omega)
theorem ldJ_lt (W : List Nat) (j : Nat) (hj : j < 2 ^ W.length) : ldJ W j < 2 ^ W.length := by
  have := Nat.two_pow_pos W.length
  rcases ldJ_inv W j with h | h <;> omega
theorem ldJ_pc (W : List Nat) (h8 : W.length ≤ 8) (j : Nat) : pc 8 (ldJ W j) ≤ W.length := by
  induction j with
  | zero => rw [ldJ, pc_all W.length h8]; omega
  | succ j ih =>
    unfold ldJ
    split
    · rename_i h
      rw [Bool.and_eq_true, decide_eq_true_eq] at h
      omega
    · exact ih
theorem pc_less_all : ((List.range 9).all fun n => (List.range (2 ^ n - 1)).all fun x => decide (pc 8 x < n)) = true := by decide +kernel
theorem pc_less (n x : Nat) (h8 : n ≤ 8) (hx : x < 2 ^ n - 1) : pc 8 x < n := by
  have h := pc_less_all
  rw [List.all_eq_true] at h
  have h := h n (by rw [List.mem_range]; omega)
  rw [List.all_eq_true] at h
  simpa using h x (by rwa [List.mem_range])
/-- The last set, all players, is no better. -/
theorem ldJ_last (W : List Nat) (h1 : 1 ≤ W.length) (h8 : W.length ≤ 8) : ldJ W (2 ^ W.length - 1) = ldJ W (2 ^ W.length - 2) := by
  have hp : 2 ≤ 2 ^ W.length := by have : (2 : Nat) ^ 1 ≤ 2 ^ W.length := Nat.pow_le_pow_right (by omega) h1; omega
  rw [show 2 ^ W.length - 1 = (2 ^ W.length - 2) + 1 by omega]
  refine ldJ_no _ _ fun h => ?_
  exfalso
  rw [show (2 ^ W.length - 2) + 1 = 2 ^ W.length - 1 by omega, pc_all W.length h8] at h
  have := ldJ_pc W h8 (2 ^ W.length - 2)
  omega
/-- No later set of the same number is less. -/
theorem ldJ_tie (W : List Nat) (h8 : W.length ≤ 8) (j : Nat) (hj : j + 1 < 2 ^ W.length - 1) (h : pc 8 (j + 1) = pc 8 (ldJ W j)) : ¬ j + 1 < ldJ W j := by
  rcases ldJ_inv W j with e | e
  · rw [e, pc_all W.length h8] at h
    have := pc_less W.length (j + 1) h8 hj
    omega
  · omega
def rLeastDominating (s : Int) (zs : List Int) : Int := if okB s zs then (ldJ (toW zs) (2 ^ (toW zs).length - 2) : Nat) else 0

set_option maxHeartbeats 800000 in
theorem iLeastDominating_any (A : Option Addr) (c : Nat) (s : Int) (zs : List Int) (w : World) (h : Row w w.heap.size A (ints zs)) (hl : zs.length ≤ 1099511627776) :
    Calls Try.prog 18 #[.agg #[.int .i64 s, .slice A zs.length c]] w fun e w' => e = .returned (.int .i64 (rLeastDominating s zs)) ∧ Below w.heap.size w w' := by
  cases ho : okB s zs with
  | false =>
    have N : Hid (rLeastDominating s zs = (0)) := Lib.hid (by unfold rLeastDominating; rw [ho]; rfl)
    have HO := Lib.hid ho
    clear ho
    go_enter Try.func18, Try.ntmps18
    go_wp2_with fail
    refine (iTourOk_any A c s zs _ (h.rowAt (by go_grown) (Nat.le_refl _)) hl).mono ?_
    rw [HO.out]
    rintro e w1 ⟨rfl, hb⟩
    obtain ⟨k0, k1, hbw, hsz⟩ := box1 hb
    clear hb
    go_wp2
    go_ret
    exact ⟨ret_int N.out.symm, hbw⟩
  | true =>
    obtain ⟨W, rfl, rfl, hT⟩ := ok_tour ho
    have R : Hid (rLeastDominating (W.length : Int) (casts W) = (((ldJ W (2 ^ W.length - 2) : Nat) : Int))) := Lib.hid (by unfold rLeastDominating; rw [ho, toW_casts]; rfl)
    have g1 := hT.h1
    have g8 := hT.h8
    rw [casts_length]
    clear ho hl
    go_enter Try.func18, Try.ntmps18
    go_wp2_with fail
    refine (iTourOkW A c W _ hT (h.rowAt (by go_grown) (Nat.le_refl _))).mono ?_
    rintro e w1 ⟨rfl, hb⟩
    obtain ⟨k0, k1, hbw, hsz⟩ := box1 hb
    have h := h.rowAt hbw (Nat.le_refl _)
    clear hb
    obtain ⟨p1, p2⟩ := pow_bd W.length g1 g8
    have hpn := pow_cast W.length
    have hp2 : 2 ≤ 2 ^ W.length := by have : (2 : Nat) ^ 1 ≤ 2 ^ W.length := Nat.pow_le_pow_right (by omega) g1; omega
    have hp8 := pow_le8 W.length g8
    have HL := Lib.hid (ldJ_last W g1 g8)
    have HZ : Hid (((2 ^ W.length - 1 : Nat) : Int) = 2 ^ W.length - 1) := Lib.hid (by rw [pow_cast]; omega)
    have HPN := Lib.hid hpn
    have HP8 := Lib.hid hp8
    clear hpn hp8
    have hq : (1 : Int) * 2 ^ W.length = 2 ^ W.length := by omega
    go_wp2
    go_loopw [3, 4] (fun v i wr => ∃ j : Nat, j + 1 ≤ 2 ^ W.length ∧ i = .int .i64 ((j + 1 : Nat) : Int) ∧ v = .int .i64 (ldJ W j : Nat) ∧ Below w1.heap.size w1 wr) (fun _ i _ => 2 ^ W.length - (intOf i).toNat)
    case atStart => exact ⟨0, by omega, rfl, by rw [ldJ, HZ.out], Below.refl _ _⟩
    case round =>
      obtain ⟨j, hj, rfl, rfl, hb⟩ := hrel
      obtain ⟨c0, c1⟩ := held_at k0 k1 hb
      by_cases hlt : j + 1 < 2 ^ W.length
      · have hlt' : (j : Int) + 1 < 2 ^ W.length := by have := HPN.out; omega
        have hl := ldJ_lt W j (by omega)
        have h256 := HP8.out
        have HY := Lib.hid (ldJ_yes W j)
        have HN := Lib.hid (ldJ_no W j)
        have e1 : ((j + 1 : Nat) : Int) = (j : Int) + 1 := rfl
        have hpc := pc_le 8 (j + 1)
        have hpq := pc_le 8 (ldJ W j)
        generalize hbs : ldJ W j = bs at *
        go_wp2_with fail
        refine (onesCount_any ((j + 1 : Nat) : Int) _ (by omega) (by omega)).mono ?_
        rw [Int.toNat_natCast]
        rintro e w' ⟨rfl, rfl⟩
        go_wp2_with fail
        refine (onesCount_any (bs : Int) _ (by omega) (by omega)).mono ?_
        rw [Int.toNat_natCast]
        rintro e w' ⟨rfl, rfl⟩
        by_cases h1 : pc 8 (j + 1) < pc 8 bs
        · cases h2 : dom W (j + 1) with
          | true =>
            have HJ := Lib.hid (HY.out h1 h2)
            generalize pc 8 (j + 1) = p at *
            generalize pc 8 bs = q at *
            go_wp2_with fail
            refine (dominates_any A c W ((j + 1 : Nat) : Int) _ hT (h.rowAt hb (Nat.le_refl _)) (by omega) (by omega)).mono ?_
            rw [Int.toNat_natCast, h2]
            rintro e w' ⟨rfl, hbq⟩
            have hb2 := below_trans hb hbq
            go_wp2
            go_roundw
            case rel => exact ⟨j + 1, by omega, by go_num, (by rw [HJ.out]; try rfl), hb2⟩
            case measure => simp [intOf]; omega
          | false =>
            have HJ := Lib.hid (HN.out fun _ => h2)
            generalize pc 8 (j + 1) = p at *
            generalize pc 8 bs = q at *
            go_wp2_with fail
            refine (dominates_any A c W ((j + 1 : Nat) : Int) _ hT (h.rowAt hb (Nat.le_refl _)) (by omega) (by omega)).mono ?_
            rw [Int.toNat_natCast, h2]
            rintro e w' ⟨rfl, hbq⟩
            have hb2 := below_trans hb hbq
            go_wp2
            go_roundw
            case rel => exact ⟨j + 1, by omega, by go_num, (by rw [HJ.out]; try rfl), hb2⟩
            case measure => simp [intOf]; omega
        · have HJ := Lib.hid (HN.out fun x => absurd x h1)
          generalize pc 8 (j + 1) = p at *
          generalize pc 8 bs = q at *
          go_wp2
          go_roundw
          case rel => exact ⟨j + 1, by omega, by go_num, (by rw [HJ.out]; try rfl), hb⟩
          case measure => simp [intOf]; omega
      · have ej : j = 2 ^ W.length - 1 := by omega
        have hlt' : ¬ (j : Int) + 1 < 2 ^ W.length := by have := HPN.out; omega
        have EJ := Lib.hid ej
        clear ej
        go_wp2
        go_ret
        exact ⟨ret_int (by rw [EJ.out, HL.out]; exact R.out.symm), below_trans hbw hb⟩
theorem sLeastDominating_any (A : Option Addr) (c : Nat) (s : Int) (zs : List Int) (w : World) (h : Row w w.heap.size A (ints zs)) (hl : zs.length ≤ 1099511627776) :
    Calls Try.prog 16 #[.agg #[.int .i64 s, .slice A zs.length c]] w fun e w' => e = .returned (.int .i64 (rLeastDominating s zs)) ∧ Below w.heap.size w w' := by
  cases ho : okB s zs with
  | false =>
    have N : Hid (rLeastDominating s zs = (0)) := Lib.hid (by unfold rLeastDominating; rw [ho]; rfl)
    have HO := Lib.hid ho
    clear ho
    go_enter Try.func16, Try.ntmps16
    go_wp2_with fail
    refine (sTourOk_any A c s zs _ (h.rowAt (by go_grown) (Nat.le_refl _)) hl).mono ?_
    rw [HO.out]
    rintro e w1 ⟨rfl, hb⟩
    obtain ⟨k0, k1, hbw, hsz⟩ := box1 hb
    clear hb
    go_wp2
    go_ret
    exact ⟨ret_int N.out.symm, hbw⟩
  | true =>
    obtain ⟨W, rfl, rfl, hT⟩ := ok_tour ho
    have R : Hid (rLeastDominating (W.length : Int) (casts W) = (((ldJ W (2 ^ W.length - 2) : Nat) : Int))) := Lib.hid (by unfold rLeastDominating; rw [ho, toW_casts]; rfl)
    have g1 := hT.h1
    have g8 := hT.h8
    rw [casts_length]
    clear ho hl
    go_enter Try.func16, Try.ntmps16
    go_wp2_with fail
    refine (sTourOkW A c W _ hT (h.rowAt (by go_grown) (Nat.le_refl _))).mono ?_
    rintro e w1 ⟨rfl, hb⟩
    obtain ⟨k0, k1, hbw, hsz⟩ := box1 hb
    have h := h.rowAt hbw (Nat.le_refl _)
    clear hb
    obtain ⟨p1, p2⟩ := pow_bd W.length g1 g8
    have hp2 : 2 ≤ 2 ^ W.length := by have : (2 : Nat) ^ 1 ≤ 2 ^ W.length := Nat.pow_le_pow_right (by omega) g1; omega
    have HP8 := Lib.hid (pow_le8 W.length g8)
    have HPN := Lib.hid (pow_cast W.length)
    have HZ : Hid (((2 ^ W.length - 1 : Nat) : Int) = 2 ^ W.length - 1) := Lib.hid (by have := pow_cast W.length; omega)
    go_wp2_with fail
    refine (l02All_any A c W.length _ g1 g8).mono ?_
    rintro e w2 ⟨rfl, hb2⟩
    have hbw := below_trans hbw hb2
    obtain ⟨k0, k1⟩ := held_at k0 k1 hb2
    have h := h.rowAt hb2 (Nat.le_refl _)
    clear hb2
    go_wp2
    go_loopw [3, 4] (fun v i wr => ∃ j : Nat, j + 1 ≤ 2 ^ W.length - 1 ∧ i = .int .i64 ((j + 1 : Nat) : Int) ∧ v = .int .i64 (ldJ W j : Nat) ∧ Below w2.heap.size w2 wr) (fun _ i _ => 2 ^ W.length - (intOf i).toNat)
    case atStart => exact ⟨0, by omega, rfl, by rw [ldJ, HZ.out], Below.refl _ _⟩
    case round =>
      obtain ⟨j, hj, rfl, rfl, hb⟩ := hrel
      obtain ⟨c0, c1⟩ := held_at k0 k1 hb
      go_wp2_with fail
      refine (l02All_any A c W.length _ g1 g8).mono ?_
      rintro e w3 ⟨rfl, hb3⟩
      have hb := below_trans hb hb3
      obtain ⟨c0, c1⟩ := held_at c0 c1 hb3
      clear hb3
      by_cases hlt : j + 1 < 2 ^ W.length - 1
      · have hlt' : (j : Int) + 1 < 2 ^ W.length - 1 := by have := HPN.out; omega
        have hl := ldJ_lt W j (by omega)
        have h256 := HP8.out
        have HY := Lib.hid (ldJ_yes W j)
        have HN := Lib.hid (ldJ_no W j)
        have HT := Lib.hid (ldJ_tie W g8 j hlt)
        generalize hbs : ldJ W j = bs at *
        go_wp2_with fail
        refine (l07Dominates_any A c W ((j + 1 : Nat) : Int) _ hT (h.rowAt hb (Nat.le_refl _)) (by omega) (by omega)).mono ?_
        rw [Int.toNat_natCast]
        cases h2 : dom W (j + 1) with
        | false =>
          rintro e w' ⟨rfl, hbq⟩
          have hb2 := below_trans hb hbq
          have HJ := Lib.hid (HN.out fun _ => h2)
          go_wp2
          go_roundw
          case rel => exact ⟨j + 1, by omega, by go_num, (by rw [HJ.out]; try rfl), hb2⟩
          case measure => simp [intOf]; omega
        | true =>
          rintro e w' ⟨rfl, hbq⟩
          have hb2 := below_trans hb hbq
          go_wp2_with fail
          refine (l02Bits_any ((j + 1 : Nat) : Int) _ (by omega) (by omega)).mono ?_
          rw [Int.toNat_natCast]
          rintro e w' ⟨rfl, rfl⟩
          go_wp2_with fail
          refine (l02Bits_any (bs : Int) _ (by omega) (by omega)).mono ?_
          rw [Int.toNat_natCast]
          rintro e w' ⟨rfl, rfl⟩
          by_cases h1 : pc 8 (j + 1) < pc 8 bs
          · have HJ := Lib.hid (HY.out h1 h2)
            generalize pc 8 (j + 1) = p at *
            generalize pc 8 bs = q at *
            go_wp2
            go_roundw
            case rel => exact ⟨j + 1, by omega, by go_num, (by rw [HJ.out]; try rfl), hb2⟩
            case measure => simp [intOf]; omega
          · have HJ := Lib.hid (HN.out fun x => absurd x h1)
            by_cases h3 : pc 8 (j + 1) = pc 8 bs
            · have hnt := HT.out h3
              have h3' : ((pc 8 (j + 1) : Nat) : Int) = (pc 8 bs : Nat) := by rw [h3]
              go_wp2_with fail
              refine (l02Bits_any ((j + 1 : Nat) : Int) _ (by omega) (by omega)).mono ?_
              rw [Int.toNat_natCast]
              rintro e w' ⟨rfl, rfl⟩
              go_wp2_with fail
              refine (l02Bits_any (bs : Int) _ (by omega) (by omega)).mono ?_
              rw [Int.toNat_natCast]
              rintro e w' ⟨rfl, rfl⟩
              go_wp2
              go_roundw
              case rel => exact ⟨j + 1, by omega, by go_num, (by rw [HJ.out]; try rfl), hb2⟩
              case measure => simp [intOf]; omega
            · have e3 : (((pc 8 (j + 1) : Nat) : Int) == (pc 8 bs : Nat)) = false := by rw [beq_eq_false_iff_ne]; omega
              go_wp2_with fail
              refine (l02Bits_any ((j + 1 : Nat) : Int) _ (by omega) (by omega)).mono ?_
              rw [Int.toNat_natCast]
              rintro e w' ⟨rfl, rfl⟩
              go_wp2_with fail
              refine (l02Bits_any (bs : Int) _ (by omega) (by omega)).mono ?_
              rw [Int.toNat_natCast]
              rintro e w' ⟨rfl, rfl⟩
              go_wp2
              go_roundw
              case rel => exact ⟨j + 1, by omega, by go_num, (by rw [HJ.out]; try rfl), hb2⟩
              case measure => simp [intOf]; omega
      · have ej : j = 2 ^ W.length - 2 := by omega
        have hlt' : ¬ (j : Int) + 1 < 2 ^ W.length - 1 := by have := HPN.out; omega
        have EJ := Lib.hid ej
        clear ej
        go_wp2
        go_ret
        exact ⟨ret_int (by rw [EJ.out]; exact R.out.symm), below_trans hbw hb⟩
end Go.Proofs.Ytkdfjkocfejfjaa
