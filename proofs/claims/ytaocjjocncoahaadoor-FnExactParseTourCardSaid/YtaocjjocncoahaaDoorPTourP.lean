/- Plain: a tour read from its text. -/
import Derived.Test.YtaocjjocncoahaaDoorGame
import Derived.Test.YtaocjjocncoahaaDoorFmtTour
namespace Go.Proofs.YtaocjjocncoahaaDoor
open Go.RowKit

theorem fmB_succ (W : List Nat) (a k : Nat) : fmB W a (k + 1) = fmB W a k ++ if a < k then [winc W a k] else [] := by
  unfold fmB
  rw [List.range_succ, List.filter_append, List.map_append]
  by_cases h : a < k <;> simp [h]
theorem fmB_len (W : List Nat) (a k : Nat) : (fmB W a k).length = k - (a + 1) := by
  induction k with
  | zero => simp [fmB]
  | succ k ih =>
    rw [fmB_succ, List.length_append, ih]
    split
    · simp; omega
    · simp; omega
theorem fmB_get (W : List Nat) (a b : Nat) (hab : a < b) : ∀ k, b < k → (fmB W a k)[b - a - 1]? = some (winc W a b)
  | 0, h => absurd h (Nat.not_lt_zero _)
  | k + 1, h => by
    rw [fmB_succ, List.getElem?_append]
    by_cases hk : b < k
    · rw [if_pos (by rw [fmB_len]; omega)]
      exact fmB_get W a b hab k hk
    · obtain rfl : b = k := by omega
      rw [if_neg (by rw [fmB_len]; omega), if_pos hab, fmB_len]
      simp [show b - a - 1 - (b - (a + 1)) = 0 by omega]
theorem fmA_succ (W : List Nat) (k : Nat) : fmA W (k + 1) = fmA W k ++ fmB W k W.length := by
  unfold fmA
  rw [List.range_succ, List.flatMap_append]
  simp
theorem fmA_len (W : List Nat) (k : Nat) : (fmA W k).length = off W.length k := by
  induction k with
  | zero => rfl
  | succ k ih => rw [fmA_succ, List.length_append, ih, fmB_len, off]; omega
theorem fmA_get (W : List Nat) (a b : Nat) (hab : a < b) (hb : b < W.length) : ∀ k, a < k → (fmA W k)[gpos W.length a b]? = some (winc W a b)
  | 0, h => absurd h (Nat.not_lt_zero _)
  | k + 1, h => by
    rw [fmA_succ, List.getElem?_append]
    by_cases hk : a < k
    · have hg := fmA_get W a b hab hb k hk
      rw [if_pos (List.getElem?_eq_some_iff.1 hg).1]
      exact hg
    · obtain rfl : a = k := by omega
      rw [if_neg (by rw [fmA_len]; unfold gpos; omega), fmA_len, show gpos W.length a b - off W.length a = b - a - 1 by unfold gpos; omega]
      exact fmB_get W a b hab _ hb
theorem fmS_end (W : List Nat) : fmS W W.length 0 = UInt8.ofNat (48 + W.length) :: 58 :: fmA W W.length := by
  unfold fmS
  rw [fmB_low W W.length 0 (by omega), List.append_nil]
  rfl
theorem fmS_game (W : List Nat) (a b : Nat) (hab : a < b) (hb : b < W.length) : (fmS W W.length 0)[gpos W.length a b + 2]? = some (winc W a b) := by
  rw [fmS_end]
  exact fmA_get W a b hab hb _ (by omega)
theorem fmS_size (W : List Nat) : (fmS W W.length 0).length = off W.length W.length + 2 := by
  rw [fmS_end, List.length_cons, List.length_cons, fmA_len]
theorem winc_iff (W : List Nat) (a b : Nat) : (winc W a b == 49) = bt W a b := by
  unfold winc
  cases bt W a b <;> rfl
/-- A text's tour. -/
def textOf (W : List Nat) : ByteArray := ⟨(fmS W W.length 0).toArray⟩
theorem textOf_data (W : List Nat) : (textOf W).data.toList = fmS W W.length 0 := by unfold textOf; simp
theorem len_digit (m n : Nat) (hm : m ≤ 8) (hn : n ≤ 8) (h : UInt8.ofNat (48 + m) = UInt8.ofNat (48 + n)) : m = n := by
  have : ∀ m, m < 9 → ∀ n, n < 9 → UInt8.ofNat (48 + m) = UInt8.ofNat (48 + n) → m = n := by decide +kernel
  exact this m (by omega) n (by omega) h
theorem textOf_inj (V W : List Nat) (hV : IsT V) (hW : IsT W) (h : textOf V = textOf W) : V = W := by
  have h2 : fmS V V.length 0 = fmS W W.length 0 := by rw [← textOf_data, ← textOf_data, h]
  have hl : V.length = W.length := by
    rw [fmS_end, fmS_end] at h2
    injection h2 with h3 _
    exact len_digit _ _ hV.h8 hW.h8 h3
  refine isT_ext V W hV hW hl fun a b hab hb => ?_
  have e1 := fmS_game V a b hab (by omega)
  have e2 := fmS_game W a b hab hb
  rw [h2, hl, e2] at e1
  rw [← winc_iff V, ← winc_iff W, Option.some.inj e1]
/-- What ParseTour answers of a text. -/
def PT (s : ByteArray) (n : Int) (zs : List Int) (ok : Bool) : Prop :=
  (ok = true ∧ ∃ W, IsT W ∧ s = textOf W ∧ n = (W.length : Int) ∧ zs = casts W) ∨ (ok = false ∧ n = 0 ∧ zs = [] ∧ ∀ W, IsT W → textOf W ≠ s)
theorem PT.one {s : ByteArray} {n m : Int} {xs ys : List Int} {a b : Bool} (h : PT s n xs a) (k : PT s m ys b) : n = m ∧ xs = ys ∧ a = b := by
  rcases h with ⟨rfl, W, hW, h1, rfl, rfl⟩ | ⟨rfl, rfl, rfl, h1⟩ <;> rcases k with ⟨rfl, V, hV, k1, rfl, rfl⟩ | ⟨rfl, rfl, rfl, k1⟩
  · rw [textOf_inj V W hV hW (k1.symm.trans h1)]; exact ⟨rfl, rfl, rfl⟩
  · exact absurd h1.symm (k1 W hW)
  · exact absurd k1.symm (h1 V hV)
  · exact ⟨rfl, rfl, rfl⟩
/-- The rows that a text's games build answer for the text: if they print to it they are its tour, else it has none. -/
theorem pt_of (s : ByteArray) (n : Nat) (g : Nat → Bool) (h1 : 1 ≤ n) (h8 : n ≤ 8) (hn : ∀ W, IsT W → textOf W = s → W.length = n)
    (hg : ∀ W, IsT W → textOf W = s → ∀ a b, a < b → b < n → g (gpos n a b) = bt W a b) :
    (textOf (gameV n g) = s → PT s (n : Int) (casts (gameV n g)) true) ∧ (textOf (gameV n g) ≠ s → PT s 0 [] false) := by
  refine ⟨fun h => .inl ⟨rfl, gameV n g, gameV_ok n g h1 h8, h.symm, by unfold gameV; rw [rowsOf_length], rfl⟩, fun h => .inr ⟨rfl, rfl, rfl, fun W hW e => ?_⟩⟩
  obtain rfl := hn W hW e
  exact h (by rw [game_build W hW g (hg W hW e)]; exact e)
end Go.Proofs.YtaocjjocncoahaaDoor
