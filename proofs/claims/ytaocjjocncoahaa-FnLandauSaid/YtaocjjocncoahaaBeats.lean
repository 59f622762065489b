/- beats and l02Beats, walked: a bit of a row of wins. -/
import Derived.Test.YtaocjjocncoahaaTours
import Derived.Test.YtaocjjocncoahaaLib
import Derived.Test.YtaocjjocncoahaaMg10
namespace Go.Proofs.Ytaocjjocncoahaa
open Go.RowKit

/-- Bit b of a number. -/
def bit (x : Int) (b : Nat) : Bool := x.toNat.testBit b

theorem beats_any (A : Option Addr) (c : Nat) (s : Int) (zs : List Int) (a b : Int) (w : World) (h : Row w w.heap.size A (ints zs)) (ha0 : 0 ≤ a) (ha : a < (zs.length : Int)) (hb0 : 0 ≤ b) (hb : b ≤ 60) (hz : 0 ≤ zs.getD a.toNat 0) (hz' : zs.getD a.toNat 0 ≤ 1000) :
    Calls Try.prog 80 #[.agg #[.int .i64 s, .slice A zs.length c], .int .i64 a, .int .i64 b] w fun e w' => e = .returned (.bool (bit (zs.getD a.toNat 0) b.toNat)) ∧ Below w.heap.size w w' := by
  obtain ⟨m, rfl⟩ := Int.eq_ofNat_of_zero_le ha0
  obtain ⟨n, rfl⟩ := Int.eq_ofNat_of_zero_le hb0
  rw [Int.toNat_natCast] at *
  rw [Int.toNat_natCast]
  have hlt : m < zs.length := by omega
  obtain ⟨bk, off, rfl, hbB, hc⟩ := h.int hlt
  rw [getD_lt _ _ _ hlt] at *
  generalize zs[m] = z at *
  obtain ⟨x, rfl⟩ := Int.eq_ofNat_of_zero_le hz
  have E := Lib.hid (bit_test x n (by omega))
  clear h
  go_enter Try.func80, Try.ntmps80
  go_wp2
  go_ret
  exact ⟨ret_bool (by rw [E.out]; rfl), by go_grown⟩
end Go.Proofs.Ytaocjjocncoahaa
