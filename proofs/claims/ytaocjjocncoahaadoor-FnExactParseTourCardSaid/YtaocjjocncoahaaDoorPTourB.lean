/- The bits that the reference's ParseTour reads off a text. -/
import Derived.Test.YtaocjjocncoahaaDoorPTourC
namespace Go.Proofs.YtaocjjocncoahaaDoor
open Go.RowKit

/-- Is the k-th letter behind the colon a 1. -/
def one49 (s : ByteArray) (k : Nat) : Bool := s.data.toList.getD (k + 2) 0 == 49
/-- The bits when k letters behind the colon have been read. -/
def bitS (s : ByteArray) (k : Nat) : Nat := ofB k (one49 s)
theorem bitS_step (s : ByteArray) (k : Nat) : bitS s (k + 1) = bitS s k ||| (if one49 s k then 2 ^ k else 0) := ofB_or _ _
theorem bitS_test (s : ByteArray) (k j : Nat) : (bitS s k).testBit j = (decide (j < k) && one49 s j) := testBit_ofB _ _ _
theorem gpos_bound (m a b : Nat) (h8 : m ≤ 8) (hab : a < b) (hb : b < m) : gpos m a b < 28 := by
  have : ∀ m, m < 9 → ∀ b, b < m → ∀ a, a < b → gpos m a b < 28 := by decide +kernel
  exact this m (by omega) b hb a hab
theorem bits_say (s : ByteArray) (W : List Nat) (hW : IsT W) (h : textOf W = s) (k : Nat) (hk : s.size ≤ k + 2 ∨ 38 ≤ k) (a b : Nat) (hab : a < b) (hb : b < W.length) : (bitS s k).testBit (gpos W.length a b) = bt W a b := by
  have hg := fmS_game W a b hab hb
  have h28 := gpos_bound W.length a b hW.h8 hab hb
  have hd : s.data.toList = fmS W W.length 0 := by rw [← h, textOf_data]
  have hlt := (List.getElem?_eq_some_iff.1 hg).1
  have hsz : s.size = (fmS W W.length 0).length := by rw [← hd]; rfl
  rw [bitS_test, decide_eq_true (by omega), Bool.true_and]
  unfold one49
  rw [hd, List.getD, hg, Option.getD_some, winc_iff]
theorem first_says (s : ByteArray) (W : List Nat) (hW : IsT W) (h : textOf W = s) : 2 ≤ s.size ∧ (s.data.toList.getD 0 0).toNat = 48 + W.length := by
  have hd : s.data.toList = fmS W W.length 0 := by rw [← h, textOf_data]
  have hsz : s.size = (fmS W W.length 0).length := by rw [← hd]; rfl
  refine ⟨by rw [hsz, fmS_size]; omega, ?_⟩
  rw [hd, fmS_end]
  have h8 := hW.h8
  show (UInt8.ofNat (48 + W.length)).toNat = 48 + W.length
  exact dg_nat _ (by omega)
/-- The bits build the text's tour, if it is one's. -/
theorem pt_bits (s : ByteArray) (n k : Nat) (h1 : 1 ≤ n) (h8 : n ≤ 8) (hf : (s.data.toList.getD 0 0).toNat = 48 + n) (hk : s.size ≤ k + 2 ∨ 38 ≤ k) :
    (textOf (gameV n fun j => (bitS s k).testBit j) = s → PT s (n : Int) (casts (gameV n fun j => (bitS s k).testBit j)) true) ∧ (textOf (gameV n fun j => (bitS s k).testBit j) ≠ s → PT s 0 [] false) := by
  refine pt_of s n _ h1 h8 (fun W hW e => by have := (first_says s W hW e).2; omega) fun W hW e a b hab hb => ?_
  have hn : n = W.length := by have := (first_says s W hW e).2; omega
  subst hn
  exact bits_say s W hW e k hk a b hab hb
/-- Too short, or no size in front: no tour's text. -/
theorem pt_first (s : ByteArray) (h : s.size < 2 ∨ (s.data.toList.getD 0 0).toNat < 49 ∨ 56 < (s.data.toList.getD 0 0).toNat) : PT s 0 [] false := .inr ⟨rfl, rfl, rfl, fun W hW e => by
  have h2 := first_says s W hW e
  have h1 := hW.h1
  have h8 := hW.h8
  omega⟩
end Go.Proofs.YtaocjjocncoahaaDoor
