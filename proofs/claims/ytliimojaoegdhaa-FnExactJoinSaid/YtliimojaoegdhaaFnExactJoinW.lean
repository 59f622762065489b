/- The law FnExactJoin, walked: it returns true. -/
import Derived.Test.YtliimojaoegdhaaText
namespace Go.Proofs.Ytliimojaoegdhaa
open Go.RowKit
set_option maxHeartbeats 800000 in
theorem walkFnExactJoin (A : Option Addr) (c : Nat) (l : List ByteArray) (b : ByteArray) (w : World) (_ : l.length ≤ c) (hm : c ≤ maxLen) (h : Row w w.heap.size A (strs l)) (hz : ∀ z ∈ l, z.size ≤ maxLen) (hb : b.size ≤ maxLen) :
    Calls Try.prog 7 #[.slice A l.length c, .string b] w fun e w' => e = .returned (.bool true) ∧ Below w.heap.size w w' := by
  have hb' := hb
  unfold maxLen at hb' hm
  by_cases g : 1048576 < b.size
  · skip
    go_enter Try.func7, Try.ntmps7
    go_wp2
    go_ret
    exact ⟨rfl, Below.refl _ _⟩
  · have hlw : l.length ≤ 9223372036854775807 := by omega
    have HSZ := Lib.hid (fun W' hr => szStringS_any A c l 1048576 W' hr hlw hz (Nat.le_refl _))
    by_cases g2 : l.length + szs l l.length ≤ 1048576
    · rw [if_pos g2] at HSZ
      have HTO := Lib.hid (fun A' c' W' hr => toStringS_any A' c' l W' hr (by omega))
      have HS := Lib.hid (fun A' c' W' hr => sJoin_any A' c' l b W' hr g2 (by omega))
      have HI := Lib.hid (fun A' c' W' hr hc => iJoin_any A' c' l b W' hr g2 (by omega) hc)
      have HEQ := Lib.hid (fun A' B' c' d' W' hr hr' => eqStringS_any A' B' c' d' l W' hr hr' (by omega))
      have hx : ((joinL l b).toList == (joinL l b).toList) = true := by simp
      obtain ⟨m, hm9⟩ : ∃ m, m = 1048576 - (l.length + szs l l.length) := ⟨_, rfl⟩
      rw [← hm9] at HSZ
      have hml : m ≤ 1048576 := by omega
      clear hm9 g2 hz
      generalize joinL l b = r at *
      go_enter Try.func7, Try.ntmps7
      go_wp2_with fail
      refine (HSZ.out _ h).mono ?_
      rintro e w1 ⟨rfl, rfl⟩
      go_wp2_with fail
      refine (HTO.out A c _ h).mono ?_
      rintro e w1 ⟨P1, d1, rfl, ho1, hb1⟩
      go_wp2_with fail
      refine (HS.out P1 d1 _ ho1.row).mono ?_
      rintro e w2 ⟨rfl, rfl⟩
      have h1 := h.rowAt hb1 (Nat.le_refl _)
      go_wp2_with fail
      refine (HTO.out A c _ h1).mono ?_
      rintro e w2 ⟨P2, d2, rfl, ho2, hb2⟩
      have hd2 : l.length ≤ d2 := by have := ho2.cap; rw [strs_length] at this; omega
      go_wp2_with fail
      refine (HI.out P2 d2 _ ho2.row hd2).mono ?_
      rintro e w3 ⟨rfl, hb3⟩
      have hb13 := below_trans hb1 (below_trans hb2 hb3)
      have ho3 := ho2.rowAt hb3 (Nat.le_refl _)
      have h3 := h.rowAt hb13 (Nat.le_refl _)
      go_wp2_with fail
      refine (HTO.out A c _ h3).mono ?_
      rintro e w4 ⟨P4, d4, rfl, ho4, hb4⟩
      go_wp2_with fail
      refine (HEQ.out P2 P4 d2 d4 _ (Row.rowAt ho3 hb4 (Nat.le_refl _)) ho4.row).mono ?_
      rintro e w5 ⟨rfl, hb5⟩
      go_wp2
      go_ret
      exact ⟨rfl, below_trans hb13 (below_trans hb4 hb5)⟩
    · rw [if_neg g2] at HSZ
      clear g2 hz
      go_enter Try.func7, Try.ntmps7
      go_wp2_with fail
      refine (HSZ.out _ h).mono ?_
      rintro e w1 ⟨rfl, rfl⟩
      go_wp2
      go_ret
      exact ⟨rfl, Below.refl _ _⟩
end Go.Proofs.Ytliimojaoegdhaa
