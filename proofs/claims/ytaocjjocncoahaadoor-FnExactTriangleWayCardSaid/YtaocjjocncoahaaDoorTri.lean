/- isTriangle and IsTriangle, walked. -/
import Derived.Test.YtaocjjocncoahaaDoorIsT
import Derived.Deep.RegionHeld3
namespace Go.Proofs.YtaocjjocncoahaaDoor
open Go.RowKit

/-- Three players, the least ahead, who beat each other in a ring. -/
def triB (W : List Nat) : List Int → Bool
  | [x, y, z] => allIn 0 ((W.length : Int) - 1) [x, y, z] && (decide (x < y) && decide (x < z) && bt W x.toNat y.toNat && bt W y.toNat z.toNat && bt W z.toNat x.toNat)
  | _ => false
theorem triB_eq (W : List Nat) (x y z : Int) : triB W [x, y, z] = (allIn 0 ((W.length : Int) - 1) [x, y, z] && (decide (x < y) && decide (x < z) && bt W x.toNat y.toNat && bt W y.toNat z.toNat && bt W z.toNat x.toNat)) := rfl
theorem triB_len (W : List Nat) (ts : List Int) (h : ts.length ≠ 3) : triB W ts = false := by
  match ts with
  | [] => rfl
  | [_] => rfl
  | [_, _] => rfl
  | [_, _, _] => exact absurd rfl h
  | _ :: _ :: _ :: _ :: _ => rfl
theorem three (ts : List Int) (h : ts.length = 3) : ∃ x y z, ts = [x, y, z] := by
  match ts with
  | [x, y, z] => exact ⟨x, y, z, rfl⟩
theorem Row.three {w : World} {B : Nat} {A : Option Addr} {x y z : Int} (h : Row w B A (ints [x, y, z])) :
    ∃ b off, A = some ⟨b, off, none⟩ ∧ b < B ∧ w.cell? ⟨b, off, none⟩ = some (.int .i64 x) ∧ w.cell? ⟨b, off + 1, none⟩ = some (.int .i64 y) ∧ w.cell? ⟨b, off + 2, none⟩ = some (.int .i64 z) := by
  obtain ⟨b, off, e, hb, hc⟩ := h (by simp [ints])
  exact ⟨b, off, e, hb, hc 0 _ rfl, hc 1 _ rfl, hc 2 _ rfl⟩
/-- Of three players in range: what is asked of them. -/
theorem triB_nat (W : List Nat) (i j k : Nat) (hi : i < W.length) (hj : j < W.length) (hk : k < W.length) : triB W [(i : Int), j, k] = (decide (i < j) && decide (i < k) && bt W i j && bt W j k && bt W k i) := by
  have ha : allIn 0 ((W.length : Int) - 1) [(i : Int), j, k] = true := by
    unfold allIn
    simp
    omega
  rw [triB_eq, ha, Bool.true_and, Int.toNat_natCast, Int.toNat_natCast, Int.toNat_natCast]
  simp

theorem iTourOkW (A : Option Addr) (c : Nat) (W : List Nat) (w : World) (hT : IsT W) (h : Row w w.heap.size A (ints (casts W))) :
    Calls Tryd.prog 46 #[.agg #[.int .i64 (W.length : Int), .slice A W.length c]] w fun e w' => e = .returned (.bool true) ∧ Below w.heap.size w w' := by
  have g8 := hT.h8
  have := iTourOk_any A c (W.length : Int) (casts W) w h (by rw [casts_length]; omega)
  rwa [tour_ok hT, casts_length] at this
theorem sTourOkW (A : Option Addr) (c : Nat) (W : List Nat) (w : World) (hT : IsT W) (h : Row w w.heap.size A (ints (casts W))) :
    Calls Tryd.prog 40 #[.agg #[.int .i64 (W.length : Int), .slice A W.length c]] w fun e w' => e = .returned (.bool true) ∧ Below w.heap.size w w' := by
  have g8 := hT.h8
  have := sTourOk_any A c (W.length : Int) (casts W) w h (by rw [casts_length]; omega)
  rwa [tour_ok hT, casts_length] at this
theorem beatsW_any (A : Option Addr) (c : Nat) (W : List Nat) (a b : Nat) (v : Bool) (hv : bt W a b = v) (w : World) (hT : IsT W) (h : Row w w.heap.size A (ints (casts W))) (ha : a < W.length) (hb : b < W.length) :
    Calls Tryd.prog 59 #[.agg #[.int .i64 (W.length : Int), .slice A W.length c], .int .i64 (a : Int), .int .i64 (b : Int)] w fun e w' => e = .returned (.bool v) ∧ Below w.heap.size w w' := by
  have g8 := hT.h8
  have g := hT.lt256 a
  have hcall := beats_any A c (W.length : Int) (casts W) (a : Int) (b : Int) w h (by omega) (by rw [casts_length]; omega) (by omega) (by omega) (by rw [Int.toNat_natCast, casts_getD]; omega) (by rw [Int.toNat_natCast, casts_getD]; omega)
  rw [Int.toNat_natCast, Int.toNat_natCast, bit_casts, hv, casts_length] at hcall
  exact hcall
theorem l02BeatsW_any (A : Option Addr) (c : Nat) (W : List Nat) (a b : Nat) (v : Bool) (hv : bt W a b = v) (w : World) (hT : IsT W) (h : Row w w.heap.size A (ints (casts W))) (ha : a < W.length) (hb : b < W.length) :
    Calls Tryd.prog 42 #[.agg #[.int .i64 (W.length : Int), .slice A W.length c], .int .i64 (a : Int), .int .i64 (b : Int)] w fun e w' => e = .returned (.bool v) ∧ Below w.heap.size w w' := by
  have g8 := hT.h8
  have g := hT.lt256 a
  have hcall := l02Beats_any A c (W.length : Int) (casts W) (a : Int) (b : Int) w h (by omega) (by rw [casts_length]; omega) (by omega) (by omega) (by rw [Int.toNat_natCast, casts_getD]; omega) (by rw [Int.toNat_natCast, casts_getD]; omega)
  rw [Int.toNat_natCast, Int.toNat_natCast, bit_casts, hv, casts_length] at hcall
  exact hcall

theorem isTriangle_any (A : Option Addr) (c : Nat) (W : List Nat) (A' : Option Addr) (c' : Nat) (ts : List Int) (w : World) (hT : IsT W) (h : Row w w.heap.size A (ints (casts W))) (h' : Row w w.heap.size A' (ints ts)) (hl' : ts.length ≤ 1099511627776) :
    Calls Tryd.prog 52 #[.agg #[.int .i64 (W.length : Int), .slice A W.length c], .slice A' ts.length c'] w fun e w' => e = .returned (.bool (triB W ts)) ∧ Below w.heap.size w w' := by
  have g1 := hT.h1
  have g8 := hT.h8
  by_cases hlen : ts.length = 3
  · obtain ⟨x, y, z, rfl⟩ := three ts hlen
    clear hlen hl'
    have e3 : [x, y, z].length = 3 := rfl
    rw [e3]
    cases ha : allIn 0 ((W.length : Int) - 1) [x, y, z] with
    | false =>
      have N : Hid (triB W [x, y, z] = false) := Lib.hid (by rw [triB_eq, ha]; rfl)
      have HA := Lib.hid ha
      clear ha
      go_enter Tryd.func52, Tryd.ntmps52
      go_wp2_with fail
      refine (allWithin_any A' c' [x, y, z] _ _ _ (h'.rowAt (by go_grown) (Nat.le_refl _)) (by simp)).mono ?_
      rw [HA.out]
      rintro e w1 ⟨rfl, hb⟩
      obtain ⟨k0, k1, hbw, hsz⟩ := box1 hb
      clear hb
      go_wp2
      go_ret
      exact ⟨ret_bool N.out.symm, hbw⟩
    | true =>
      have HA := Lib.hid ha
      have hin : (0 ≤ x ∧ x ≤ (W.length : Int) - 1) ∧ (0 ≤ y ∧ y ≤ (W.length : Int) - 1) ∧ (0 ≤ z ∧ z ≤ (W.length : Int) - 1) := by
        have := (allIn_all 0 ((W.length : Int) - 1) [x, y, z]).1 ha
        exact ⟨this 0 (by simp), this 1 (by simp), this 2 (by simp)⟩
      clear ha
      obtain ⟨⟨x1, x2⟩, ⟨y1, y2⟩, ⟨z1, z2⟩⟩ := hin
      obtain ⟨i, rfl⟩ := Int.eq_ofNat_of_zero_le x1
      obtain ⟨j, rfl⟩ := Int.eq_ofNat_of_zero_le y1
      obtain ⟨k, rfl⟩ := Int.eq_ofNat_of_zero_le z1
      have hi : i < W.length := by omega
      have hj : j < W.length := by omega
      have hk : k < W.length := by omega
      have R := Lib.hid (triB_nat W i j k hi hj hk)
      go_enter Tryd.func52, Tryd.ntmps52
      go_wp2_with fail
      refine (allWithin_any A' c' [(i : Int), j, k] _ _ _ (h'.rowAt (by go_grown) (Nat.le_refl _)) (by simp)).mono ?_
      rw [HA.out]
      rintro e w1 ⟨rfl, hb⟩
      obtain ⟨k0, k1, hbw, hsz⟩ := box1 hb
      obtain ⟨b, off, rfl, hbB, q0, q1, q2⟩ := (h'.rowAt hbw (Nat.le_refl _)).three
      have hW := Lib.hid (h.rowAt hbw (Nat.le_refl _))
      clear hb h h' x1 x2 y1 y2 z1 z2
      by_cases hij : i < j
      · by_cases hik : i < k
        · have R : Hid (triB W [(i : Int), j, k] = (bt W i j && bt W j k && bt W k i)) := Lib.hid (by rw [R.out, decide_eq_true hij, decide_eq_true hik]; rfl)
          go_wp2
          go_quiet (fail)
          have hW2 : ∀ n, Below w.heap.size w (w1.drewN n) := fun n => below_drewN hbw n
          cases n1 : bt W i j with
          | false =>
            have N : Hid (triB W [(i : Int), j, k] = false) := Lib.hid (by rw [R.out, n1]; rfl)
            have H1 := Lib.hid n1
            clear n1
            go_wp2_with fail
            refine (beatsW_any A c W i j false H1.out _ hT (hW.out.drewN _) hi hj).mono ?_
            rintro e w2 ⟨rfl, hb2⟩
            go_wp2
            go_ret
            exact ⟨ret_bool N.out.symm, below_trans (hW2 _) hb2⟩
          | true =>
            have R : Hid (triB W [(i : Int), j, k] = (bt W j k && bt W k i)) := Lib.hid (by rw [R.out, n1]; rfl)
            have H1 := Lib.hid n1
            clear n1
            go_wp2_with fail
            refine (beatsW_any A c W i j true H1.out _ hT (hW.out.drewN _) hi hj).mono ?_
            rintro e w2 ⟨rfl, hb2⟩
            have hW3 := below_trans (hW2 _) hb2
            have hr2 := Lib.hid (hW.out.rowAt (show Below w1.heap.size w1 w2 from Below.trans (below_drewN (Below.refl _ _) _) hb2) (Nat.le_refl _))
            have m0 := (hb2.cell (p := ⟨w.heap.size, 0, none⟩) (World.block_lt_of_cell? w1 _ k0)).trans k0
            have m1 := (hb2.cell (p := ⟨w.heap.size, 1, none⟩) (World.block_lt_of_cell? w1 _ k1)).trans k1
            clear k0 k1 q0 q1 q2
            cases n1 : bt W j k with
            | false =>
              have N : Hid (triB W [(i : Int), j, k] = false) := Lib.hid (by rw [R.out, n1]; rfl)
              have H2 := Lib.hid n1
              clear n1
              go_wp2_with fail
              refine (beatsW_any A c W j k false H2.out _ hT hr2.out hj hk).mono ?_
              rintro e w3 ⟨rfl, hb3⟩
              go_wp2
              go_ret
              exact ⟨ret_bool N.out.symm, below_trans hW3 hb3⟩
            | true =>
              have R : Hid (triB W [(i : Int), j, k] = bt W k i) := Lib.hid (by rw [R.out, n1]; rfl)
              have H2 := Lib.hid n1
              clear n1
              go_wp2_with fail
              refine (beatsW_any A c W j k true H2.out _ hT hr2.out hj hk).mono ?_
              rintro e w3 ⟨rfl, hb3⟩
              have hr3 := Lib.hid (hr2.out.rowAt hb3 (Nat.le_refl _))
              have hW4 := below_trans hW3 hb3
              obtain ⟨l0, l1⟩ := box_keep m0 m1 hb3
              clear m0 m1
              go_wp2_with fail
              refine (beatsW_any A c W k i _ rfl _ hT hr3.out hk hi).mono ?_
              rintro e w4 ⟨rfl, hb4⟩
              go_wp2
              go_ret
              exact ⟨ret_bool R.out.symm, below_trans hW4 hb4⟩
        · have N : Hid (triB W [(i : Int), j, k] = false) := Lib.hid (by rw [R.out, decide_eq_false hik]; simp)
          go_wp2
          go_quiet (fail)
          go_wp2
          go_ret
          exact ⟨ret_bool N.out.symm, below_drewN hbw _⟩
      · have N : Hid (triB W [(i : Int), j, k] = false) := Lib.hid (by rw [R.out, decide_eq_false hij]; simp)
        go_wp2
        go_quiet (fail)
        go_wp2
        go_ret
        exact ⟨ret_bool N.out.symm, below_drewN hbw _⟩
  · have N := Lib.hid (triB_len W ts hlen)
    have e0 : ((ts.length : Int) != 3) = true := by simp; omega
    clear hlen
    go_enter Tryd.func52, Tryd.ntmps52
    go_wp2
    go_ret
    exact ⟨ret_bool N.out.symm, by go_grown⟩

/-- What both functions IsTriangle answer. -/
def rIsTriangle (s : Int) (zs : List Int) (ts : List Int) : Bool := if okB s zs then triB (toW zs) ts else false
end Go.Proofs.YtaocjjocncoahaaDoor
