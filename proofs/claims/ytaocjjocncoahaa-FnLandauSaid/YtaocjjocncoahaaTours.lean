/- The laws' own helpers on tours, walked: size, copy, compare, mark, hold. -/
import Derived.Test.YtaocjjocncoahaaInts
import Derived.Handy
namespace Go.Proofs.Ytaocjjocncoahaa
open Go.RowKit

/-- The call has laid a new tour and turned nothing that was there. -/
def NewTour (w : World) (sz : Int) (zs : List Int) (e : Ending) (w' : World) : Prop :=
  ∃ A c, e = .returned (.agg #[.int .i64 sz, .slice A zs.length c]) ∧ Own w' w.heap.size w'.heap.size 3 A c (ints zs) ∧ Below w.heap.size w w'

theorem eqTour_any (A B : Option Addr) (c d : Nat) (sz : Int) (zs : List Int) (w : World) (h : Row w w.heap.size A (ints zs)) (h' : Row w w.heap.size B (ints zs)) (hl : zs.length ≤ 1099511627776) :
    Calls Try.prog 11 #[.agg #[.int .i64 sz, .slice A zs.length c], .agg #[.int .i64 sz, .slice B zs.length d]] w fun e w' => e = .returned (.bool true) ∧ Below w.heap.size w w' := by
  have hrow : ∀ W : World, Below w.heap.size w W → Row W W.heap.size A (ints zs) := fun W hb => (h.below hb (Nat.le_refl _)).mono hb.size
  have hrow' : ∀ W : World, Below w.heap.size w W → Row W W.heap.size B (ints zs) := fun W hb => (h'.below hb (Nat.le_refl _)).mono hb.size
  go_enter Try.func11, Try.ntmps11
  go_wp2_with fail
  refine (eqIntS_any A B c d zs _ (hrow _ ?_) (hrow' _ ?_) hl).mono ?_
  · go_grown
  · go_grown
  rintro e w1 ⟨rfl, hb⟩
  go_wp2
  go_ret
  exact ⟨rfl, Below.trans (by go_grown) (hb.mono (by simp; omega))⟩

theorem markTour_any (A : Option Addr) (c : Nat) (sz : Int) (zs : List Int) (k : Int) (lo hi : Nat) (w : World) (h : Own w lo hi 3 A c (ints zs)) (hhi : hi ≤ w.heap.size)
    (hl : zs.length ≤ 1099511627776) (h0 : 0 ≤ k) (h1 : k ≤ 1099511627776) :
    Calls Try.prog 14 #[.agg #[.int .i64 sz, .slice A zs.length c], .int .i64 k] w (Marked w lo hi A c k zs.length) := by
  go_enter Try.func14, Try.ntmps14
  go_wp2_with fail
  refine (markIntS_any A c zs k lo hi _ (h.alloc hhi _) hl h0 h1).mono ?_
  rintro e w1 ⟨rfl, ho, hb⟩
  go_wp2
  go_ret
  exact ⟨rfl, ho, ((Only.refl _ _ _).alloc _).trans hb⟩

theorem heldTour_any (A : Option Addr) (c n : Nat) (sz k : Int) (w : World) (h : Row w w.heap.size A (ints (marks k n))) (hl : n ≤ 1099511627776) (h0 : 0 ≤ k) (h1 : k ≤ 1099511627776) :
    Calls Try.prog 15 #[.agg #[.int .i64 sz, .slice A n c], .int .i64 k] w fun e w' => e = .returned (.int .i64 (k + (n : Int))) ∧ Below w.heap.size w w' := by
  have hrow : ∀ W : World, Below w.heap.size w W → Row W W.heap.size A (ints (marks k n)) := fun W hb => (h.below hb (Nat.le_refl _)).mono hb.size
  go_enter Try.func15, Try.ntmps15
  go_wp2_with fail
  refine (heldIntS_any A c n k _ (hrow _ ?_) hl h0 h1).mono ?_
  · go_grown
  rintro e w1 ⟨rfl, rfl⟩
  go_wp2
  go_ret
  exact ⟨rfl, by go_grown⟩
end Go.Proofs.Ytaocjjocncoahaa
