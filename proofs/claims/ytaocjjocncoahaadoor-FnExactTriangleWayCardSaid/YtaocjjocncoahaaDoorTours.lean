/- The laws' own helpers on tours, walked: size, copy, compare, mark, hold. -/
import Derived.Test.YtaocjjocncoahaaDoorInts
import Derived.Handy
namespace Go.Proofs.YtaocjjocncoahaaDoor
open Go.RowKit

theorem szTour_in (A : Option Addr) (c n : Nat) (sz left : Int) (w : World) (h : (n : Int) ≤ left) (hl : left ≤ 1099511627776) :
    Calls Tryd.prog 11 #[.agg #[.int .i64 sz, .slice A n c], .int .i64 left] w fun e w' => e = .returned (.int .i64 (left - (n : Int))) ∧ Below w.heap.size w w' := by
  go_enter Tryd.func11, Tryd.ntmps11
  go_wp2_with (go_at_call 30; refine (szIntS_in A c n left _ h hl).mono ?_; rintro e w' ⟨rfl, rfl⟩)
  go_ret
  exact ⟨rfl, (Below.refl _ _).alloc (Nat.le_refl _) _⟩
theorem szTour_out (A : Option Addr) (c n : Nat) (sz left : Int) (w : World) (h : left < (n : Int)) (h0 : 0 ≤ left) (hl : (n : Int) ≤ 9223372036854775807) :
    Calls Tryd.prog 11 #[.agg #[.int .i64 sz, .slice A n c], .int .i64 left] w fun e w' => e = .returned (.int .i64 (-1)) ∧ Below w.heap.size w w' := by
  go_enter Tryd.func11, Tryd.ntmps11
  go_wp2_with (go_at_call 30; refine (szIntS_out A c n left _ h h0 hl).mono ?_; rintro e w' ⟨rfl, rfl⟩)
  go_ret
  exact ⟨rfl, (Below.refl _ _).alloc (Nat.le_refl _) _⟩

/-- The call has laid a new tour and turned nothing that was there. -/
def NewTour (w : World) (sz : Int) (zs : List Int) (e : Ending) (w' : World) : Prop :=
  ∃ A c, e = .returned (.agg #[.int .i64 sz, .slice A zs.length c]) ∧ Own w' w.heap.size w'.heap.size 3 A c (ints zs) ∧ Below w.heap.size w w'

theorem toTour_any (A : Option Addr) (c : Nat) (sz : Int) (zs : List Int) (w : World) (h : Row w w.heap.size A (ints zs)) (hl : zs.length ≤ 1048576) :
    Calls Tryd.prog 13 #[.agg #[.int .i64 sz, .slice A zs.length c]] w (NewTour w sz zs) := by
  go_enter Tryd.func13, Tryd.ntmps13
  go_wp2_with fail
  have hrow : ∀ W : World, Below w.heap.size w W → Row W W.heap.size A (ints zs) := fun W hb => (h.below hb (Nat.le_refl _)).mono hb.size
  refine (toIntS_any A c zs _ (hrow _ ?_) hl).mono ?_
  · go_grown
  rintro e w1 ⟨A1, c1, rfl, ho, hb⟩
  obtain ⟨hc, hf⟩ := bcell hb
  have hz := hb.size
  simp at hz hc hf
  go_wp2_with fail
  refine bodyPost_ret (v := .agg #[.int .i64 sz, .slice A1 zs.length c1]) (by simp [results, Tryd.results13, go_sem, hc]) rfl ⟨A1, c1, rfl, ?_, ?_⟩
  · have ho' : Own w1 (w.heap.size + 3) w1.heap.size 3 A1 c1 (ints zs) := ho.mono (by simp) (Nat.le_refl _)
    refine Own.mono (Own.setCell (Own.setCell (Own.setCell ho' ?_ _) ?_ _) ?_ _) (by omega) (by simp)
    all_goals (left; show _ < _; simp)
  · have hb0 : Below w.heap.size w w1 := Below.trans (by go_grown) (hb.mono (by simp; omega))
    refine ((hb0.setCell ?_ _).setCell ?_ _).setCell ?_ _
    all_goals (show _ ≤ _; simp)
    omega

theorem eqTour_any (A B : Option Addr) (c d : Nat) (sz : Int) (zs : List Int) (w : World) (h : Row w w.heap.size A (ints zs)) (h' : Row w w.heap.size B (ints zs)) (hl : zs.length ≤ 1099511627776) :
    Calls Tryd.prog 8 #[.agg #[.int .i64 sz, .slice A zs.length c], .agg #[.int .i64 sz, .slice B zs.length d]] w fun e w' => e = .returned (.bool true) ∧ Below w.heap.size w w' := by
  have hrow : ∀ W : World, Below w.heap.size w W → Row W W.heap.size A (ints zs) := fun W hb => (h.below hb (Nat.le_refl _)).mono hb.size
  have hrow' : ∀ W : World, Below w.heap.size w W → Row W W.heap.size B (ints zs) := fun W hb => (h'.below hb (Nat.le_refl _)).mono hb.size
  go_enter Tryd.func8, Tryd.ntmps8
  go_wp2_with fail
  refine (eqIntS_any A B c d zs _ (hrow _ ?_) (hrow' _ ?_) hl).mono ?_
  · go_grown
  · go_grown
  rintro e w1 ⟨rfl, hb⟩
  go_wp2
  go_ret
  exact ⟨rfl, Below.trans (by go_grown) (hb.mono (by simp; omega))⟩

theorem markTour_any (A : Option Addr) (c : Nat) (sz : Int) (zs : List Int) (k : Int) (lo hi : Nat) (w : World) (h : Own w lo hi 3 A c (ints zs)) (hhi : hi ≤ w.heap.size)
    (hl : zs.length ≤ 1099511627776) (h0 : 0 ≤ k) (h1 : k ≤ 1099511627776) :
    Calls Tryd.prog 9 #[.agg #[.int .i64 sz, .slice A zs.length c], .int .i64 k] w (Marked w lo hi A c k zs.length) := by
  go_enter Tryd.func9, Tryd.ntmps9
  go_wp2_with fail
  refine (markIntS_any A c zs k lo hi _ (h.alloc hhi _) hl h0 h1).mono ?_
  rintro e w1 ⟨rfl, ho, hb⟩
  go_wp2
  go_ret
  exact ⟨rfl, ho, ((Only.refl _ _ _).alloc _).trans hb⟩

theorem heldTour_any (A : Option Addr) (c n : Nat) (sz k : Int) (w : World) (h : Row w w.heap.size A (ints (marks k n))) (hl : n ≤ 1099511627776) (h0 : 0 ≤ k) (h1 : k ≤ 1099511627776) :
    Calls Tryd.prog 10 #[.agg #[.int .i64 sz, .slice A n c], .int .i64 k] w fun e w' => e = .returned (.int .i64 (k + (n : Int))) ∧ Below w.heap.size w w' := by
  have hrow : ∀ W : World, Below w.heap.size w W → Row W W.heap.size A (ints (marks k n)) := fun W hb => (h.below hb (Nat.le_refl _)).mono hb.size
  go_enter Tryd.func10, Tryd.ntmps10
  go_wp2_with fail
  refine (heldIntS_any A c n k _ (hrow _ ?_) hl h0 h1).mono ?_
  · go_grown
  rintro e w1 ⟨rfl, rfl⟩
  go_wp2
  go_ret
  exact ⟨rfl, by go_grown⟩
end Go.Proofs.YtaocjjocncoahaaDoor
