/- The program's own SameTour. -/
import Derived.Test.YtbgcpobomafiaaaDiffer
namespace Go.Proofs.Ytbgcpobomafiaaa
open Go.RowKit
theorem same_any (A : Option Addr) (c : Nat) (s : Int) (zs : List Int) (A' : Option Addr) (c' : Nat) (t : Int) (ys : List Int) (w : World) (h : Row w w.heap.size A (ints zs)) (hl : zs.length ≤ 1099511627776) (h' : Row w w.heap.size A' (ints ys)) (hl' : ys.length ≤ 1099511627776) :
    Calls Try.prog 63 #[.agg #[.int .i64 s, .slice A zs.length c], .agg #[.int .i64 t, .slice A' ys.length c']] w fun e w' => e = .returned (.bool ((s == t) && (zs == ys))) ∧ Below w.heap.size w w' := by
  by_cases hst : s = t
  · subst hst
    go_enter Try.func63, Try.ntmps63
    go_wp2_with fail
    refine (equal_any A A' c c' zs ys _ (h.rowAt (by go_grown) (Nat.le_refl _)) (h'.rowAt (by go_grown) (Nat.le_refl _)) hl hl').mono ?_
    rintro e w1 ⟨rfl, hb⟩
    have hbw := (box2 hb).2.2.1
    go_wp2
    go_ret
    exact ⟨ret_bool (by simp), hbw⟩
  · have N : Hid (((s == t) && (zs == ys)) = false) := Lib.hid (by simp [hst])
    go_enter Try.func63, Try.ntmps63
    go_wp2
    go_ret
    exact ⟨ret_bool N.out.symm, by go_grown⟩

theorem iSameTour_any (A : Option Addr) (c : Nat) (s : Int) (zs : List Int) (A' : Option Addr) (c' : Nat) (t : Int) (ys : List Int) (w : World) (h : Row w w.heap.size A (ints zs)) (hl : zs.length ≤ 1099511627776) (h' : Row w w.heap.size A' (ints ys)) (hl' : ys.length ≤ 1099511627776) :
    Calls Try.prog 37 #[.agg #[.int .i64 s, .slice A zs.length c], .agg #[.int .i64 t, .slice A' ys.length c']] w fun e w' => e = .returned (.bool (rSameTour s zs t ys)) ∧ Below w.heap.size w w' := by
  cases ho : okB s zs with
  | false =>
    have N : Hid (rSameTour s zs t ys = false) := Lib.hid (by unfold rSameTour; rw [ho]; rfl)
    have HO := Lib.hid ho
    clear ho
    go_enter Try.func37, Try.ntmps37
    go_wp2_with fail
    refine (iTourOk_any A c s zs _ (h.rowAt (by go_grown) (Nat.le_refl _)) hl).mono ?_
    rw [HO.out]
    rintro e w1 ⟨rfl, hb⟩
    obtain ⟨⟨k0, k1⟩, ⟨j0, j1⟩, hbw, hsz⟩ := box2 hb
    clear hb
    go_wp2
    go_ret
    exact ⟨ret_bool N.out.symm, hbw⟩
  | true =>
    have HO := Lib.hid ho
    go_enter Try.func37, Try.ntmps37
    go_wp2_with fail
    refine (iTourOk_any A c s zs _ (h.rowAt (by go_grown) (Nat.le_refl _)) hl).mono ?_
    rw [HO.out]
    rintro e w1 ⟨rfl, hb⟩
    obtain ⟨⟨k0, k1⟩, ⟨j0, j1⟩, hbw, hsz⟩ := box2 hb
    clear hb
    cases ho' : okB t ys with
    | false =>
      have N : Hid (rSameTour s zs t ys = false) := Lib.hid (by unfold rSameTour; rw [ho, ho']; rfl)
      have HO' := Lib.hid ho'
      clear ho ho'
      go_wp2_with fail
      refine (iTourOk_any A' c' t ys _ (h'.rowAt hbw (Nat.le_refl _)) hl').mono ?_
      rw [HO'.out]
      rintro e w2 ⟨rfl, hb2⟩
      go_wp2
      go_ret
      exact ⟨ret_bool N.out.symm, below_trans hbw hb2⟩
    | true =>
      have N : Hid (rSameTour s zs t ys = ((s == t) && (zs == ys))) := Lib.hid (by unfold rSameTour; rw [ho, ho']; rfl)
      have HO' := Lib.hid ho'
      clear ho ho'
      go_wp2_with fail
      refine (iTourOk_any A' c' t ys _ (h'.rowAt hbw (Nat.le_refl _)) hl').mono ?_
      rw [HO'.out]
      rintro e w2 ⟨rfl, hb2⟩
      have hbw2 := below_trans hbw hb2
      obtain ⟨l0, l1⟩ := box_keep k0 k1 hb2
      obtain ⟨m0, m1⟩ := box_keep j0 j1 hb2
      clear k0 k1 j0 j1
      go_wp2_with fail
      refine (same_any A c s zs A' c' t ys _ (h.rowAt hbw2 (Nat.le_refl _)) hl (h'.rowAt hbw2 (Nat.le_refl _)) hl').mono ?_
      rintro e w3 ⟨rfl, hb3⟩
      go_wp2
      go_ret
      exact ⟨ret_bool N.out.symm, below_trans hbw2 hb3⟩
end Go.Proofs.Ytbgcpobomafiaaa
