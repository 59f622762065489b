/- Dominating sets: dominates, l07Dominates, IsDominating, walked. -/
import Derived.Test.YtaocjjocncoahaaDoorIsT
namespace Go.Proofs.YtaocjjocncoahaaDoor
open Go.RowKit

/-- A set and all whom some players beat. -/
def uni (W : List Nat) (s : Nat) (ms : List Nat) : Nat := ms.foldl (fun acc a => acc ||| W.getD a 0) s
theorem uni_snoc (W : List Nat) (s : Nat) (ms : List Nat) (k : Nat) (hk : k < ms.length) : uni W s (ms.take (k + 1)) = uni W s (ms.take k) ||| W.getD ms[k] 0 := by
  unfold uni; rw [List.take_succ_eq_append_getElem hk, List.foldl_append]; rfl
theorem uni_lt (W : List Nat) (n : Nat) (hW : ∀ i, W.getD i 0 < 2 ^ n) (ms : List Nat) : ∀ (s : Nat), s < 2 ^ n → uni W s ms < 2 ^ n := by
  induction ms with
  | nil => intro s hs; exact hs
  | cons a ms ih => intro s hs; exact ih _ (Nat.or_lt_two_pow hs (hW a))
theorem mem_lt (n s : Nat) (hs : s < 2 ^ n) (k : Nat) (hk : k < (mem 8 s).length) : (mem 8 s)[k] < n := by
  have := (mem_mem 8 s _).1 (List.getElem_mem hk)
  rcases Nat.lt_or_ge (mem 8 s)[k] n with h | h
  · exact h
  · rw [Nat.testBit_lt_two_pow (Nat.lt_of_lt_of_le hs (Nat.pow_le_pow_right (by omega) h))] at this
    simp at this
theorem pow_cast (n : Nat) : ((2 : Int) ^ n) = ((2 ^ n : Nat) : Int) := by simp
theorem eq_all (x n : Nat) : ((x : Int) == 2 ^ n - 1) = (x == 2 ^ n - 1) := by
  have := Nat.two_pow_pos n
  rw [pow_cast, Bool.eq_iff_iff, beq_iff_eq, beq_iff_eq]
  omega
/-- Every player is in the set or beaten by someone in it. -/
def dom (W : List Nat) (s : Nat) : Bool := uni W s (mem 8 s) == 2 ^ W.length - 1

/-- What both functions IsDominating answer. -/
def rIsDominating (s : Int) (zs : List Int) (x : Int) : Bool := okB s zs && (decide (1 ≤ x) && decide (x ≤ 2 ^ zs.length - 1)) && dom (toW zs) x.toNat

end Go.Proofs.YtaocjjocncoahaaDoor
