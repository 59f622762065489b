/- FewestReversals, CountBestOrders: the program's side (leans on XArr). -/
import Derived.Test.YtkdfjkocfejfjaaFewest
import Derived.Test.YtkdfjkocfejfjaaArr
namespace Go.Proofs.Ytkdfjkocfejfjaa
open Go.RowKit
theorem iFewestReversals_any (A : Option Addr) (c : Nat) (s : Int) (zs : List Int) (w : World) (h : Row w w.heap.size A (ints zs)) (hl : zs.length ≤ 1099511627776) :
    Calls Try.prog 37 #[.agg #[.int .i64 s, .slice A zs.length c]] w fun e w' => e = .returned (.int .i64 (rFewestReversals s zs)) ∧ Below w.heap.size w w' := by
  cases ho : okB s zs with
  | false =>
    have N : Hid (rFewestReversals s zs = (-1)) := Lib.hid (by unfold rFewestReversals; rw [ho]; rfl)
    have HO := Lib.hid ho
    clear ho
    go_enter Try.func37, Try.ntmps37
    go_wp2_with fail
    refine (iTourOk_any A c s zs _ (h.rowAt (by go_grown) (Nat.le_refl _)) hl).mono ?_
    rw [HO.out]
    rintro e w1 ⟨rfl, hb⟩
    obtain ⟨k0, k1, hbw, hsz⟩ := box1 hb
    clear hb
    go_wp2
    go_ret
    exact ⟨ret_int N.out.symm, hbw⟩
  | true =>
    obtain ⟨W, rfl, rfl, hT⟩ := ok_tour ho
    have R : Hid (rFewestReversals (W.length : Int) (casts W) = ((((ent W (2 ^ W.length - 1)).1 : Nat) : Int))) := Lib.hid (by unfold rFewestReversals; rw [ho, toW_casts]; rfl)
    have g1 := hT.h1
    have g8 := hT.h8
    rw [casts_length]
    clear ho hl
    go_enter Try.func37, Try.ntmps37
    go_wp2_with fail
    refine (iTourOkW A c W _ hT (h.rowAt (by go_grown) (Nat.le_refl _))).mono ?_
    rintro e w1 ⟨rfl, hb⟩
    obtain ⟨k0, k1, hbw, hsz⟩ := box1 hb
    have h := h.rowAt hbw (Nat.le_refl _)
    clear hb
    obtain ⟨p1, p2⟩ := pow_bd W.length g1 g8
    have HPN := Lib.hid (pow_cast W.length)
    have hq : (1 : Int) * 2 ^ W.length = 2 ^ W.length := by omega
    go_wp2_with fail
    refine (arranged_any A c W _ hT h).mono ?_
    rintro e w2 ⟨B, d, B', d', rfl, hR, hR', hb2⟩
    obtain ⟨c0, c1⟩ := held_at k0 k1 hb2
    have hp := Nat.two_pow_pos W.length
    obtain ⟨b, off, rfl, _, hc⟩ := hR.nat (k := 2 ^ W.length - 1) (by rw [bestL_length]; omega)
    rw [bestL_at, tbl_at _ _ _ (by omega)] at hc
    have EI : ((2 : Int) ^ W.length - 1) = ((2 ^ W.length - 1 : Nat) : Int) := by have := HPN.out; omega
    have hlt : ((2 ^ W.length - 1 : Nat) : Int) < (2 ^ W.length : Nat) := by omega
    generalize hm : 2 ^ W.length - 1 = m at *
    have HM := Lib.hid hm
    clear hm
    go_wp2
    go_ret
    exact ⟨ret_int R.out.symm, below_trans hbw hb2⟩
theorem iCountBestOrders_any (A : Option Addr) (c : Nat) (s : Int) (zs : List Int) (w : World) (h : Row w w.heap.size A (ints zs)) (hl : zs.length ≤ 1099511627776) :
    Calls Try.prog 35 #[.agg #[.int .i64 s, .slice A zs.length c]] w fun e w' => e = .returned (.int .i64 (rCountBestOrders s zs)) ∧ Below w.heap.size w w' := by
  cases ho : okB s zs with
  | false =>
    have N : Hid (rCountBestOrders s zs = (-1)) := Lib.hid (by unfold rCountBestOrders; rw [ho]; rfl)
    have HO := Lib.hid ho
    clear ho
    go_enter Try.func35, Try.ntmps35
    go_wp2_with fail
    refine (iTourOk_any A c s zs _ (h.rowAt (by go_grown) (Nat.le_refl _)) hl).mono ?_
    rw [HO.out]
    rintro e w1 ⟨rfl, hb⟩
    obtain ⟨k0, k1, hbw, hsz⟩ := box1 hb
    clear hb
    go_wp2
    go_ret
    exact ⟨ret_int N.out.symm, hbw⟩
  | true =>
    obtain ⟨W, rfl, rfl, hT⟩ := ok_tour ho
    have R : Hid (rCountBestOrders (W.length : Int) (casts W) = ((((ent W (2 ^ W.length - 1)).2 : Nat) : Int))) := Lib.hid (by unfold rCountBestOrders; rw [ho, toW_casts]; rfl)
    have g1 := hT.h1
    have g8 := hT.h8
    rw [casts_length]
    clear ho hl
    go_enter Try.func35, Try.ntmps35
    go_wp2_with fail
    refine (iTourOkW A c W _ hT (h.rowAt (by go_grown) (Nat.le_refl _))).mono ?_
    rintro e w1 ⟨rfl, hb⟩
    obtain ⟨k0, k1, hbw, hsz⟩ := box1 hb
    have h := h.rowAt hbw (Nat.le_refl _)
    clear hb
    obtain ⟨p1, p2⟩ := pow_bd W.length g1 g8
    have HPN := Lib.hid (pow_cast W.length)
    have hq : (1 : Int) * 2 ^ W.length = 2 ^ W.length := by omega
    go_wp2_with fail
    refine (arranged_any A c W _ hT h).mono ?_
    rintro e w2 ⟨B, d, B', d', rfl, hR, hR', hb2⟩
    obtain ⟨c0, c1⟩ := held_at k0 k1 hb2
    have hp := Nat.two_pow_pos W.length
    obtain ⟨b, off, rfl, _, hc⟩ := hR'.nat (k := 2 ^ W.length - 1) (by rw [waysL_length]; omega)
    rw [waysL_at, tbl_at _ _ _ (by omega)] at hc
    have EI : ((2 : Int) ^ W.length - 1) = ((2 ^ W.length - 1 : Nat) : Int) := by have := HPN.out; omega
    have hlt : ((2 ^ W.length - 1 : Nat) : Int) < (2 ^ W.length : Nat) := by omega
    generalize hm : 2 ^ W.length - 1 = m at *
    have HM := Lib.hid hm
    clear hm
    go_wp2
    go_ret
    exact ⟨ret_int R.out.symm, below_trans hbw hb2⟩
end Go.Proofs.Ytkdfjkocfejfjaa
