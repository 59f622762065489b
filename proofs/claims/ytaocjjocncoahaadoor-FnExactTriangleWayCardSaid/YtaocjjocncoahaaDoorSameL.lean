/- Two lists, the same: l04Same, slices.Equal. -/
import Derived.Test.YtaocjjocncoahaaDoorScore
namespace Go.Proofs.YtaocjjocncoahaaDoor
open Go.RowKit

theorem take_same {zs ys : List Int} {k : Nat} (h : zs.take k = ys.take k) (hz : k < zs.length) (hy : k < ys.length) (he : zs[k] = ys[k]) : zs.take (k + 1) = ys.take (k + 1) := by
  rw [List.take_succ_eq_append_getElem hz, List.take_succ_eq_append_getElem hy, h, he]
theorem same_no {zs ys : List Int} {k : Nat} (hz : k < zs.length) (hy : k < ys.length) (he : zs[k] ≠ ys[k]) : (zs == ys) = false := by
  rw [beq_eq_false_iff_ne]
  rintro rfl
  exact he rfl
theorem sSameL_any (A A' : Option Addr) (c c' : Nat) (zs ys : List Int) (w : World) (h : Row w w.heap.size A (ints zs)) (h' : Row w w.heap.size A' (ints ys)) (hl : zs.length ≤ 1099511627776) :
    Calls Tryd.prog 47 #[.slice A zs.length c, .slice A' ys.length c'] w fun e w' => e = .returned (.bool (zs == ys)) ∧ Below w.heap.size w w' := by
  by_cases he : zs.length = ys.length
  · have HE := Lib.hid he
    have e1 : ((zs.length : Int) != (ys.length : Int)) = false := by simp [he]
    clear he
    go_enter Tryd.func47, Tryd.ntmps47
    go_wp2
    go_loop [14] (fun i => ∃ k : Nat, k ≤ zs.length ∧ i = .int .i64 (k : Int) ∧ Hid (zs.take k = ys.take k)) (fun i => zs.length - (intOf i).toNat)
    case atStart => exact ⟨0, Nat.zero_le _, rfl, Lib.hid rfl⟩
    case round =>
      obtain ⟨k, hk, rfl, HT⟩ := hrel
      by_cases hlt : k < zs.length
      · have hy : k < ys.length := by have := HE.out; omega
        obtain ⟨b, off, rfl, _, hc⟩ := h.int hlt
        obtain ⟨b', off', rfl, _, hc'⟩ := h'.int hy
        by_cases hx : zs[k] = ys[k]
        · have hn := Lib.hid (take_same HT.out hlt hy hx)
          have e2 : (zs[k] != ys[k]) = false := by simp [hx]
          generalize zs[k] = x at *
          generalize ys[k] = y at *
          clear hx
          go_wp2
          go_round
          case rel => exact ⟨k + 1, by omega, by go_num, hn⟩
          case measure => simp [intOf]; omega
        · have hn := Lib.hid (same_no hlt hy hx)
          have e2 : (zs[k] != ys[k]) = true := by simp [hx]
          generalize zs[k] = x at *
          generalize ys[k] = y at *
          clear hx
          go_wp2
          go_ret
          exact ⟨ret_bool hn.out.symm, Below.refl _ _⟩
      · obtain rfl : k = zs.length := by omega
        have hn : Hid ((zs == ys) = true) := Lib.hid (by
          have h9 := HT.out
          rw [List.take_length, HE.out, List.take_length] at h9
          simp [h9])
        go_wp2
        go_ret
        exact ⟨ret_bool hn.out.symm, Below.refl _ _⟩
  · have hn : Hid ((zs == ys) = false) := Lib.hid (by rw [beq_eq_false_iff_ne]; rintro rfl; exact he rfl)
    have e1 : ((zs.length : Int) != (ys.length : Int)) = true := by simp; omega
    clear he
    go_enter Tryd.func47, Tryd.ntmps47
    go_wp2
    go_ret
    exact ⟨ret_bool hn.out.symm, Below.refl _ _⟩
theorem equalL_any (A A' : Option Addr) (c c' : Nat) (zs ys : List Int) (w : World) (h : Row w w.heap.size A (ints zs)) (h' : Row w w.heap.size A' (ints ys)) (hl : zs.length ≤ 1099511627776) :
    Calls Tryd.prog 50 #[.slice A zs.length c, .slice A' ys.length c'] w fun e w' => e = .returned (.bool (zs == ys)) ∧ Below w.heap.size w w' := by
  by_cases he : zs.length = ys.length
  · have HE := Lib.hid he
    have e1 : ((zs.length : Int) != (ys.length : Int)) = false := by simp [he]
    clear he
    go_enter Tryd.func50, Tryd.ntmps50
    go_wp2
    go_loopw [13] (fun i wr => ∃ k : Nat, k ≤ zs.length ∧ i = .int .i64 (k : Int) ∧ Hid (zs.take k = ys.take k) ∧ Below w.heap.size w wr) (fun i _ => zs.length - (intOf i).toNat)
    case atStart => exact ⟨0, Nat.zero_le _, rfl, Lib.hid rfl, Below.refl _ _⟩
    case round =>
      obtain ⟨k, hk, rfl, HT, hb⟩ := hrel
      by_cases hlt : k < zs.length
      · have hy : k < ys.length := by have := HE.out; omega
        obtain ⟨b, off, rfl, _, hc⟩ := (h.rowAt hb (Nat.le_refl _)).int hlt
        obtain ⟨b', off', rfl, _, hc'⟩ := (h'.rowAt hb (Nat.le_refl _)).int hy
        by_cases hx : zs[k] = ys[k]
        · have hn := Lib.hid (take_same HT.out hlt hy hx)
          have e2 : (zs[k] != ys[k]) = false := by simp [hx]
          generalize zs[k] = x at *
          generalize ys[k] = y at *
          clear hx
          go_wp2
          go_quiet (fail)
          go_wp2
          go_roundw
          case rel => exact ⟨k + 1, by omega, by go_num, hn, by first | exact hb.drew | exact below_drewN hb _⟩
          case measure => simp [intOf]; omega
        · have hn := Lib.hid (same_no hlt hy hx)
          have e2 : (zs[k] != ys[k]) = true := by simp [hx]
          generalize zs[k] = x at *
          generalize ys[k] = y at *
          clear hx
          go_wp2
          go_quiet (fail)
          go_wp2
          go_ret
          exact ⟨ret_bool hn.out.symm, by first | exact hb.drew | exact below_drewN hb _⟩
      · obtain rfl : k = zs.length := by omega
        have hn : Hid ((zs == ys) = true) := Lib.hid (by
          have h9 := HT.out
          rw [List.take_length, HE.out, List.take_length] at h9
          simp [h9])
        go_wp2
        go_ret
        exact ⟨ret_bool hn.out.symm, hb⟩
  · have hn : Hid ((zs == ys) = false) := Lib.hid (by rw [beq_eq_false_iff_ne]; rintro rfl; exact he rfl)
    have e1 : ((zs.length : Int) != (ys.length : Int)) = true := by simp; omega
    clear he
    go_enter Tryd.func50, Tryd.ntmps50
    go_wp2
    go_ret
    exact ⟨ret_bool hn.out.symm, Below.refl _ _⟩
end Go.Proofs.YtaocjjocncoahaaDoor
