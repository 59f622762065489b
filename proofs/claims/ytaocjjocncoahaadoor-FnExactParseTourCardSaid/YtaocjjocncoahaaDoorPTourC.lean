/- A tour's text cut at its colon. -/
import Derived.Test.YtaocjjocncoahaaDoorPTourP
import Derived.Test.YtaocjjocncoahaaDoorParseP
import Derived.Lib.IndexMore
namespace Go.Proofs.YtaocjjocncoahaaDoor
open Go.RowKit

theorem index_second (c : UInt8) (l : List UInt8) (h : c ≠ 58) : Lib.index (c :: 58 :: l) [58] = 1 := by
  have hp : ([58] : List UInt8).isPrefixOf (c :: 58 :: l) = false := by simp [List.isPrefixOf, Ne.symm h]
  have hix : Lib.index (58 :: l) [58] = ((0 : Nat) : Int) := by rw [Lib.index]; simp [List.isPrefixOf]
  rw [Lib.index, hp, hix]
  simp
theorem digit_ne (n : Nat) (h8 : n ≤ 8) : UInt8.ofNat (48 + n) ≠ 58 := by
  have : ∀ n, n < 9 → UInt8.ofNat (48 + n) ≠ 58 := by decide +kernel
  exact this n (by omega)
theorem cut_text (W : List Nat) (h8 : W.length ≤ 8) : Lib.cut (fmS W W.length 0) [58] = ([UInt8.ofNat (48 + W.length)], fmA W W.length, true) := by
  rw [fmS_end]
  unfold Lib.cut
  rw [index_second _ _ (digit_ne _ h8), if_pos (by decide)]
  rfl
theorem off_all (n : Nat) (h1 : 1 ≤ n) (h8 : n ≤ 8) : (off n n : Int) = ((n : Int) * ((n : Int) - 1)) / 2 := by
  have : ∀ n, n < 9 → 1 ≤ n → (off n n : Int) = ((n : Int) * ((n : Int) - 1)) / 2 := by decide +kernel
  exact this n (by omega) h1
/-- What a cut at the colon says of a text: if it is a tour's, the number in front is its size, and the games lie behind. -/
theorem cut_says (s : ByteArray) (W : List Nat) (hW : IsT W) (h : textOf W = s) :
    (⟨(Lib.cut s.data.toList [58]).1.toArray⟩ : ByteArray) = fmtI (W.length : Int) ∧ (Lib.cut s.data.toList [58]).2.1 = fmA W W.length ∧ (Lib.cut s.data.toList [58]).2.1.length = off W.length W.length := by
  subst h
  rw [textOf_data, cut_text W hW.h8, fmtI_small _ (by have := hW.h8; omega)]
  exact ⟨rfl, rfl, fmA_len W _⟩
theorem size_says (s : ByteArray) (W : List Nat) (hW : IsT W) (h : textOf W = s) {n : Int} {ok : Bool} (hp : PI ⟨(Lib.cut s.data.toList [58]).1.toArray⟩ n ok) : n = (W.length : Int) := by
  rw [(cut_says s W hW h).1] at hp
  have h1 := hW.h1
  have h8 := hW.h8
  have hq : PI (fmtI (W.length : Int)) (W.length : Int) true := .inl ⟨rfl, ⟨by omega, by omega⟩, rfl⟩
  exact (hp.one hq).1
/-- The number in front is no size of a tour: the text is no tour's. -/
theorem pt_size (s : ByteArray) {n : Int} {ok : Bool} (hp : PI ⟨(Lib.cut s.data.toList [58]).1.toArray⟩ n ok) (h : n < 1 ∨ 8 < n) : PT s 0 [] false := .inr ⟨rfl, rfl, rfl, fun W hW e => by
  have := size_says s W hW e hp
  have h1 := hW.h1
  have h8 := hW.h8
  omega⟩
/-- As many games as the size does not want: the text is no tour's. -/
theorem pt_games (s : ByteArray) {n : Nat} {ok : Bool} (hp : PI ⟨(Lib.cut s.data.toList [58]).1.toArray⟩ (n : Int) ok) (h : (Lib.cut s.data.toList [58]).2.1.length ≠ off n n) : PT s 0 [] false := .inr ⟨rfl, rfl, rfl, fun W hW e => by
  have h1 := size_says s W hW e hp
  have h2 : n = W.length := by omega
  rw [h2] at h
  exact h (cut_says s W hW e).2.2⟩
/-- The games behind the colon build the text's tour, if it is one's. -/
theorem pt_cut (s : ByteArray) {n : Nat} {ok : Bool} (hp : PI ⟨(Lib.cut s.data.toList [58]).1.toArray⟩ (n : Int) ok) (h1 : 1 ≤ n) (h8 : n ≤ 8) :
    (textOf (gameV n fun k => (Lib.cut s.data.toList [58]).2.1.getD k 0 == 49) = s → PT s (n : Int) (casts (gameV n fun k => (Lib.cut s.data.toList [58]).2.1.getD k 0 == 49)) true) ∧
    (textOf (gameV n fun k => (Lib.cut s.data.toList [58]).2.1.getD k 0 == 49) ≠ s → PT s 0 [] false) := by
  refine pt_of s n _ h1 h8 (fun W hW e => by have := size_says s W hW e hp; omega) fun W hW e a b hab hb => ?_
  have hn : n = W.length := by have := size_says s W hW e hp; omega
  subst hn
  have hg := fmA_get W a b hab hb W.length (by omega)
  show ((Lib.cut s.data.toList [58]).2.1.getD (gpos W.length a b) 0 == 49) = bt W a b
  rw [(cut_says s W hW e).2.1, List.getD, hg, Option.getD_some, winc_iff]
end Go.Proofs.YtaocjjocncoahaaDoor
