/- isStrong, l05Strong, IsStrong, StrongParts, IsTransitive, walked. -/
import Derived.Test.YtboekpmaefcmdaaParts
namespace Go.Proofs.Ytboekpmaefcmdaa
open Go.RowKit

def strB (W : List Nat) : Bool := decide ((spL W (2 ^ W.length - 1)).length = 1)
theorem strB_no {W : List Nat} (hT : IsT W) {a : Nat} (ha : a < W.length) (h : rc W a ≠ 2 ^ W.length - 1) : strB W = false := by
  unfold strB
  rw [decide_eq_false_iff_not]
  intro h1
  exact h ((parts_one hT).1 h1 a ha)
theorem strB_yes {W : List Nat} (hT : IsT W) (h : ∀ a, a < W.length → rc W a = 2 ^ W.length - 1) : strB W = true := by
  unfold strB
  rw [decide_eq_true_eq]
  exact (parts_one hT).2 h
theorem spL_len (W : List Nat) (hT : IsT W) : (casts (spL W (2 ^ W.length - 1))).length ≤ 8 := by rw [casts_length]; exact spL_le W hT
theorem isStrong_any (A : Option Addr) (c : Nat) (W : List Nat) (w : World) (hT : IsT W) (h : Row w w.heap.size A (ints (casts W))) :
    Calls Try.prog 68 #[.agg #[.int .i64 (W.length : Int), .slice A W.length c]] w fun e w' => e = .returned (.bool (strB W)) ∧ Below w.heap.size w w' := by
  have hl := spL_len W hT
  have HE : Hid (strB W = decide ((casts (spL W (2 ^ W.length - 1))).length = 1)) := Lib.hid (by rw [casts_length]; rfl)
  go_enter Try.func68, Try.ntmps68
  go_wp2_with fail
  refine (parts_any A c W _ hT (h.rowAt (by go_grown) (Nat.le_refl _))).mono ?_
  rintro e w1 ⟨B, d, rfl, ho, hb⟩
  obtain ⟨k0, k1, hbw, hsz⟩ := box1 hb
  clear ho hb
  generalize (casts (spL W (2 ^ W.length - 1))).length = m at *
  have hd : ((m : Int) == 1) = decide (m = 1) := by rw [Bool.eq_iff_iff, beq_iff_eq, decide_eq_true_eq]; omega
  have HD := Lib.hid hd
  clear hd
  go_wp2
  go_ret
  exact ⟨ret_bool (by rw [HE.out, ← HD.out]), hbw⟩
theorem l05Strong_any (A : Option Addr) (c : Nat) (W : List Nat) (w : World) (hT : IsT W) (h : Row w w.heap.size A (ints (casts W))) :
    Calls Try.prog 67 #[.agg #[.int .i64 (W.length : Int), .slice A W.length c]] w fun e w' => e = .returned (.bool (strB W)) ∧ Below w.heap.size w w' := by
  have g1 := hT.h1
  have g8 := hT.h8
  go_enter Try.func67, Try.ntmps67
  go_wp2
  obtain ⟨w1, hw1⟩ : ∃ w1, w1 = w.alloc (.cells #[.int .i64 (W.length : Int), .slice A W.length c] 27) := ⟨_, rfl⟩
  rw [← hw1]
  have k0 : w1.cell? ⟨w.heap.size, 0, none⟩ = some (.int .i64 (W.length : Int)) := by rw [hw1]; go_simp
  have k1 : w1.cell? ⟨w.heap.size, 1, none⟩ = some (.slice A W.length c) := by rw [hw1]; go_simp
  have hbw : Below w.heap.size w w1 := by rw [hw1]; go_grown
  have h := h.rowAt hbw (Nat.le_refl _)
  clear hw1
  go_loopw [7] (fun i wr => ∃ k : Nat, k ≤ W.length ∧ i = .int .i64 k ∧ Hid (∀ a, a < k → rc W a = 2 ^ W.length - 1) ∧ Below w1.heap.size w1 wr) (fun i _ => W.length - (intOf i).toNat)
  case atStart => exact ⟨0, Nat.zero_le _, rfl, Lib.hid (fun a ha => by omega), Below.refl _ _⟩
  case round =>
    obtain ⟨k, hk, rfl, HA, hb⟩ := hrel
    obtain ⟨c0, c1⟩ := held_at k0 k1 hb
    by_cases hlt : k < W.length
    · have HC := Lib.hid (fun W' hr => l05Reach_any A c W k W' hT hr hlt)
      have HL := Lib.hid (fun W' => l02All_any A c W.length W' g1 g8)
      have HQ := Lib.hid (eq_all (rc W k) W.length)
      have HNo := Lib.hid (fun e => strB_no hT hlt e)
      generalize hr : rc W k = r at *
      have HR := Lib.hid hr
      clear hr
      have hv : Below wr.heap.size wr wr := Below.refl _ _
      have hne : ((r : Int) != 2 ^ W.length - 1) = !(r == 2 ^ W.length - 1) := by rw [bne, HQ.out]
      have HNE := Lib.hid hne
      clear hne
      go_wp2
      go_region_held3 (fun w' => Below wr.heap.size wr w' ∧ w'.cell? ⟨w.heap.size, 0, none⟩ = some (.int .i64 (W.length : Int)) ∧ w'.cell? ⟨w.heap.size, 1, none⟩ = some (.slice A W.length c))
        (first | exact ⟨hv, c0, c1⟩ | exact ⟨hv.drew, c0, c1⟩)
        (first
          | (go_at_call 70; refine (HC.out _ (h.rowAt (below_trans hb (by first | exact hv | exact hv.drew)) (Nat.le_refl _))).mono ?_; rintro e wv ⟨rfl, hbv⟩; obtain ⟨hv, c0, c1⟩ : Below wr.heap.size wr wv ∧ wv.cell? ⟨w.heap.size, 0, none⟩ = some (.int .i64 (W.length : Int)) ∧ wv.cell? ⟨w.heap.size, 1, none⟩ = some (.slice A W.length c) := (by first | exact sf_next ⟨hv, c0, c1⟩ hbv | exact sf_next ⟨hv.drew, c0, c1⟩ hbv))
          | (go_at_call 69; refine (HL.out _).mono ?_; rintro e wv ⟨rfl, hbv⟩; obtain ⟨hv, c0, c1⟩ : Below wr.heap.size wr wv ∧ wv.cell? ⟨w.heap.size, 0, none⟩ = some (.int .i64 (W.length : Int)) ∧ wv.cell? ⟨w.heap.size, 1, none⟩ = some (.slice A W.length c) := (by first | exact sf_next ⟨hv, c0, c1⟩ hbv | exact sf_next ⟨hv.drew, c0, c1⟩ hbv)))
      all_goals
        by_cases e9 : r = 2 ^ W.length - 1
        · have et : ((r : Int) != 2 ^ W.length - 1) = false := by rw [HNE.out, e9]; simp
          have HN : Hid (∀ a, a < k + 1 → rc W a = 2 ^ W.length - 1) := Lib.hid (fun a ha => by
            by_cases e : a = k
            · subst e; rw [HR.out, e9]
            · exact HA.out a (by omega))
          clear e9
          go_wp2
          go_roundw
          case rel => exact ⟨k + 1, by omega, by go_num, HN, below_trans hb hv⟩
          case measure => simp [intOf]; omega
        · have et : ((r : Int) != 2 ^ W.length - 1) = true := by rw [HNE.out]; simpa using e9
          have HN := Lib.hid (HNo.out e9)
          clear e9
          go_wp2
          go_ret
          exact ⟨ret_bool HN.out.symm, hbw.trans ((below_trans hb hv).mono hbw.size)⟩
    · obtain rfl : k = W.length := by omega
      have HY := Lib.hid (strB_yes hT HA.out)
      go_wp2
      go_ret
      exact ⟨ret_bool HY.out.symm, hbw.trans (hb.mono hbw.size)⟩
def rIsStrong (s : Int) (zs : List Int) : Bool := if okB s zs then strB (toW zs) else false
theorem iIsStrong_any (A : Option Addr) (c : Nat) (s : Int) (zs : List Int) (w : World) (h : Row w w.heap.size A (ints zs)) (hl : zs.length ≤ 1099511627776) :
    Calls Try.prog 27 #[.agg #[.int .i64 s, .slice A zs.length c]] w fun e w' => e = .returned (.bool (rIsStrong s zs)) ∧ Below w.heap.size w w' := by
  cases ho : okB s zs with
  | false =>
    have N : Hid (rIsStrong s zs = (false)) := Lib.hid (by unfold rIsStrong; rw [ho]; rfl)
    have HO := Lib.hid ho
    clear ho
    go_enter Try.func27, Try.ntmps27
    go_wp2_with fail
    refine (iTourOk_any A c s zs _ (h.rowAt (by go_grown) (Nat.le_refl _)) hl).mono ?_
    rw [HO.out]
    rintro e w1 ⟨rfl, hb⟩
    obtain ⟨k0, k1, hbw, hsz⟩ := box1 hb
    clear hb
    go_wp2
    go_ret
    exact ⟨ret_bool N.out.symm, hbw⟩
  | true =>
    obtain ⟨W, rfl, rfl, hT⟩ := ok_tour ho
    have R : Hid (rIsStrong (W.length : Int) (casts W) = (strB W)) := Lib.hid (by unfold rIsStrong; rw [ho, toW_casts]; rfl)
    have g1 := hT.h1
    have g8 := hT.h8
    rw [casts_length]
    clear ho hl
    go_enter Try.func27, Try.ntmps27
    go_wp2_with fail
    refine (iTourOkW A c W _ hT (h.rowAt (by go_grown) (Nat.le_refl _))).mono ?_
    rintro e w1 ⟨rfl, hb⟩
    obtain ⟨k0, k1, hbw, hsz⟩ := box1 hb
    have h := h.rowAt hbw (Nat.le_refl _)
    clear hb
    go_wp2_with fail
    refine (isStrong_any A c W _ hT h).mono ?_
    rintro e w2 ⟨rfl, hb2⟩
    go_wp2
    go_ret
    exact ⟨ret_bool (by rw [R.out]), below_trans hbw hb2⟩
theorem sIsStrong_any (A : Option Addr) (c : Nat) (s : Int) (zs : List Int) (w : World) (h : Row w w.heap.size A (ints zs)) (hl : zs.length ≤ 1099511627776) :
    Calls Try.prog 26 #[.agg #[.int .i64 s, .slice A zs.length c]] w fun e w' => e = .returned (.bool (rIsStrong s zs)) ∧ Below w.heap.size w w' := by
  cases ho : okB s zs with
  | false =>
    have N : Hid (rIsStrong s zs = (false)) := Lib.hid (by unfold rIsStrong; rw [ho]; rfl)
    have HO := Lib.hid ho
    clear ho
    go_enter Try.func26, Try.ntmps26
    go_wp2_with fail
    refine (sTourOk_any A c s zs _ (h.rowAt (by go_grown) (Nat.le_refl _)) hl).mono ?_
    rw [HO.out]
    rintro e w1 ⟨rfl, hb⟩
    obtain ⟨k0, k1, hbw, hsz⟩ := box1 hb
    clear hb
    go_wp2
    go_ret
    exact ⟨ret_bool N.out.symm, hbw⟩
  | true =>
    obtain ⟨W, rfl, rfl, hT⟩ := ok_tour ho
    have R : Hid (rIsStrong (W.length : Int) (casts W) = (strB W)) := Lib.hid (by unfold rIsStrong; rw [ho, toW_casts]; rfl)
    have g1 := hT.h1
    have g8 := hT.h8
    rw [casts_length]
    clear ho hl
    go_enter Try.func26, Try.ntmps26
    go_wp2_with fail
    refine (sTourOkW A c W _ hT (h.rowAt (by go_grown) (Nat.le_refl _))).mono ?_
    rintro e w1 ⟨rfl, hb⟩
    obtain ⟨k0, k1, hbw, hsz⟩ := box1 hb
    have h := h.rowAt hbw (Nat.le_refl _)
    clear hb
    go_wp2_with fail
    refine (l05Strong_any A c W _ hT h).mono ?_
    rintro e w2 ⟨rfl, hb2⟩
    go_wp2
    go_ret
    exact ⟨ret_bool (by rw [R.out]), below_trans hbw hb2⟩
def rStrongParts (s : Int) (zs : List Int) : List Int := if okB s zs then casts (spL (toW zs) (2 ^ (toW zs).length - 1)) else []
theorem rStrongParts_len (s : Int) (zs : List Int) : (rStrongParts s zs).length ≤ 1048576 := by
  unfold rStrongParts
  cases ho : okB s zs
  · simp
  · obtain ⟨W, rfl, rfl, hT⟩ := ok_tour ho
    rw [if_pos rfl, toW_casts]
    have := spL_len W hT
    omega
theorem iStrongParts_any (A : Option Addr) (c : Nat) (s : Int) (zs : List Int) (w : World) (h : Row w w.heap.size A (ints zs)) (hl : zs.length ≤ 1099511627776) :
    Calls Try.prog 29 #[.agg #[.int .i64 s, .slice A zs.length c]] w (NewInts w 3 (rStrongParts s zs)) := by
  cases ho : okB s zs with
  | false =>
    have N : Hid (rStrongParts s zs = []) := Lib.hid (by unfold rStrongParts; rw [ho]; rfl)
    have HO := Lib.hid ho
    clear ho
    go_enter Try.func29, Try.ntmps29
    go_wp2_with fail
    refine (iTourOk_any A c s zs _ (h.rowAt (by go_grown) (Nat.le_refl _)) hl).mono ?_
    rw [HO.out]
    rintro e w1 ⟨rfl, hb⟩
    obtain ⟨k0, k1, hbw, hsz⟩ := box1 hb
    clear hb
    go_wp2
    go_ret
    exact newInts_none _ N.out hbw
  | true =>
    obtain ⟨W, rfl, rfl, hT⟩ := ok_tour ho
    have R : Hid (rStrongParts (W.length : Int) (casts W) = (casts (spL W (2 ^ W.length - 1)))) := Lib.hid (by unfold rStrongParts; rw [ho, toW_casts]; rfl)
    have g1 := hT.h1
    have g8 := hT.h8
    rw [casts_length]
    rw [R.out]
    clear R
    clear ho hl
    go_enter Try.func29, Try.ntmps29
    go_wp2_with fail
    refine (iTourOkW A c W _ hT (h.rowAt (by go_grown) (Nat.le_refl _))).mono ?_
    rintro e w1 ⟨rfl, hb⟩
    obtain ⟨k0, k1, hbw, hsz⟩ := box1 hb
    have h := h.rowAt hbw (Nat.le_refl _)
    clear hb
    go_wp2_with fail
    refine (parts_any A c W _ hT h).mono ?_
    rintro e w2 ⟨B, d, rfl, hoB, hb2⟩
    have hz := hbw.size
    go_wp2
    go_ret
    exact ⟨B, d, rfl, hoB.mono (by omega) (Nat.le_refl _), below_trans hbw hb2⟩
end Go.Proofs.Ytboekpmaefcmdaa
