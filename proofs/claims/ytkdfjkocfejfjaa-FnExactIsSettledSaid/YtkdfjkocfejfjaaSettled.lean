/- IsSettled, walked. -/
import Derived.Test.YtkdfjkocfejfjaaBetter
namespace Go.Proofs.Ytkdfjkocfejfjaa
open Go.RowKit

/-- What both functions IsSettled answer. -/
def rIsSettled (s : Int) (zs : List Int) (os : List Int) : Bool := if rOrderOk s zs os then (nxt (toW zs) os).isNone else false
theorem iIsSettled_any (A : Option Addr) (c : Nat) (s : Int) (zs : List Int) (A' : Option Addr) (c' : Nat) (os : List Int) (w : World) (h : Row w w.heap.size A (ints zs)) (hl : zs.length ≤ 1099511627776) (h' : Row w w.heap.size A' (ints os)) (hl' : os.length ≤ 1099511627776) (hc' : os.length ≤ c') (_ : c' ≤ maxLen) :
    Calls Try.prog 48 #[.agg #[.int .i64 s, .slice A zs.length c], .slice A' os.length c'] w fun e w' => e = .returned (.bool (rIsSettled s zs os)) ∧ Below w.heap.size w w' := by
  cases hok : rOrderOk s zs os with
  | false =>
    have N : Hid (rIsSettled s zs os = false) := Lib.hid (by unfold rIsSettled; rw [hok]; rfl)
    have HK := Lib.hid hok
    clear hok
    go_enter Try.func48, Try.ntmps48
    go_wp2_with fail
    refine (iOrderOk_any A c s zs A' c' os _ (h.rowAt (by go_grown) (Nat.le_refl _)) hl (h'.rowAt (by go_grown) (Nat.le_refl _)) hl' hc').mono ?_
    rw [HK.out]
    rintro e w1 ⟨rfl, hb⟩
    obtain ⟨k0, k1, hbw, hsz⟩ := box1 hb
    clear hb
    go_wp2
    go_ret
    exact ⟨ret_bool N.out.symm, hbw⟩
  | true =>
    obtain ⟨ho, hol, hob⟩ := orderOk_facts hok
    obtain ⟨W, rfl, rfl, hT⟩ := ok_tour ho
    rw [toW_casts] at hol
    have N : Hid (rIsSettled (W.length : Int) (casts W) os = (nxt W os).isNone) := Lib.hid (by unfold rIsSettled; rw [hok, toW_casts]; rfl)
    have HOK := Lib.hid (fun W' hr1 hr2 => iOrderOkW A c W A' c' os W' hT hr1 hr2 hl' hc' hol hob)
    rw [hol] at HOK
    have HIM := Lib.hid (fun W' hr1 hr2 => improved_any A c W A' c' os W' hT hr1 hr2 hol hob)
    rw [casts_length, hol]
    clear hok ho hl hol hob
    go_enter Try.func48, Try.ntmps48
    go_wp2_with fail
    refine (HOK.out _ (h.rowAt (by go_grown) (Nat.le_refl _)) (h'.rowAt (by go_grown) (Nat.le_refl _))).mono ?_
    rintro e w1 ⟨rfl, hb⟩
    obtain ⟨k0, k1, hbw, hsz⟩ := box1 hb
    clear hb
    go_wp2_with fail
    refine (HIM.out _ (h.rowAt hbw (Nat.le_refl _)) (h'.rowAt hbw (Nat.le_refl _))).mono ?_
    rintro e w2 (⟨ho, rfl, hb2⟩ | ⟨L, g, d, ho, rfl, -, hb2⟩)
    · have N2 : Hid (rIsSettled (W.length : Int) (casts W) os = true) := Lib.hid (N.out.trans (by rw [ho]; rfl))
      clear ho
      have hnil := fun (WW : World) => Lib.run_eql_slice_nil (P := Try.prog) WW 22 3 none 0 0 0 0 Try.underlying22
      go_wp2
      go_ret
      exact ⟨ret_bool N2.out.symm, below_trans hbw hb2⟩
    · have N2 : Hid (rIsSettled (W.length : Int) (casts W) os = false) := Lib.hid (N.out.trans (by rw [ho]; rfl))
      clear ho
      have hnil := fun (WW : World) => Lib.run_eql_slice_nil (P := Try.prog) WW 22 3 (some ⟨g, 0, none⟩) L.length d 0 0 Try.underlying22
      go_wp2
      go_ret
      exact ⟨ret_bool N2.out.symm, below_trans hbw hb2⟩
theorem sIsSettled_any (A : Option Addr) (c : Nat) (s : Int) (zs : List Int) (A' : Option Addr) (c' : Nat) (os : List Int) (w : World) (h : Row w w.heap.size A (ints zs)) (hl : zs.length ≤ 1099511627776) (h' : Row w w.heap.size A' (ints os)) (hl' : os.length ≤ 1099511627776) (hc' : os.length ≤ c') (hm : c' ≤ maxLen) :
    Calls Try.prog 47 #[.agg #[.int .i64 s, .slice A zs.length c], .slice A' os.length c'] w fun e w' => e = .returned (.bool (rIsSettled s zs os)) ∧ Below w.heap.size w w' := by
  cases hok : rOrderOk s zs os with
  | false =>
    have N : Hid (rIsSettled s zs os = false) := Lib.hid (by unfold rIsSettled; rw [hok]; rfl)
    have HK := Lib.hid hok
    clear hok hm
    go_enter Try.func47, Try.ntmps47
    go_wp2_with fail
    refine (sOrderOk_any A c s zs A' c' os _ (h.rowAt (by go_grown) (Nat.le_refl _)) hl (h'.rowAt (by go_grown) (Nat.le_refl _)) hl' hc').mono ?_
    rw [HK.out]
    rintro e w1 ⟨rfl, hb⟩
    obtain ⟨k0, k1, hbw, hsz⟩ := box1 hb
    clear hb
    go_wp2
    go_ret
    exact ⟨ret_bool N.out.symm, hbw⟩
  | true =>
    obtain ⟨ho, hol, hob⟩ := orderOk_facts hok
    obtain ⟨W, rfl, rfl, hT⟩ := ok_tour ho
    rw [toW_casts] at hol
    have N : Hid (rIsSettled (W.length : Int) (casts W) os = (nxt W os).isNone) := Lib.hid (by unfold rIsSettled; rw [hok, toW_casts]; rfl)
    have HOK := Lib.hid (fun W' hr1 hr2 => sOrderOkW A c W A' c' os W' hT hr1 hr2 hl' hc' hol hob)
    rw [hol] at HOK
    have HIM := Lib.hid (fun W' hr1 hr2 => l08Better_any A c W A' c' os W' hT hr1 hr2 hol hob (by rw [← hol]; exact hc') hm)
    rw [casts_length, hol]
    clear hok ho hl hol hob hm
    go_enter Try.func47, Try.ntmps47
    go_wp2_with fail
    refine (HOK.out _ (h.rowAt (by go_grown) (Nat.le_refl _)) (h'.rowAt (by go_grown) (Nat.le_refl _))).mono ?_
    rintro e w1 ⟨rfl, hb⟩
    obtain ⟨k0, k1, hbw, hsz⟩ := box1 hb
    clear hb
    go_wp2_with fail
    refine (HIM.out _ (h.rowAt hbw (Nat.le_refl _)) (h'.rowAt hbw (Nat.le_refl _))).mono ?_
    rintro e w2 (⟨ho, rfl, hb2⟩ | ⟨L, g, d, ho, rfl, -, hb2⟩)
    · have N2 : Hid (rIsSettled (W.length : Int) (casts W) os = true) := Lib.hid (N.out.trans (by rw [ho]; rfl))
      clear ho
      go_wp2
      go_ret
      exact ⟨ret_bool N2.out.symm, below_trans hbw hb2⟩
    · have N2 : Hid (rIsSettled (W.length : Int) (casts W) os = false) := Lib.hid (N.out.trans (by rw [ho]; rfl))
      clear ho
      go_wp2
      go_ret
      exact ⟨ret_bool N2.out.symm, below_trans hbw hb2⟩
end Go.Proofs.Ytkdfjkocfejfjaa
