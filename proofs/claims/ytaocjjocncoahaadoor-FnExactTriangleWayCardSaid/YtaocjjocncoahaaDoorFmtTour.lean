/- FormatTour, walked on both sides: the size, a colon, and for each two players whether the earlier beats the later. -/
import Derived.Test.YtaocjjocncoahaaDoorTri
import Derived.Test.YtaocjjocncoahaaDoorScore
import Derived.Test.YtaocjjocncoahaaDoorFmtD
namespace Go.Proofs.YtaocjjocncoahaaDoor
open Go.RowKit

def winc (W : List Nat) (a b : Nat) : UInt8 := if bt W a b then 49 else 48
def fmB (W : List Nat) (a k : Nat) : List UInt8 := ((List.range k).filter fun b => decide (a < b)).map (winc W a)
def fmA (W : List Nat) (k : Nat) : List UInt8 := (List.range k).flatMap fun a => fmB W a W.length
def fmS (W : List Nat) (a b : Nat) : List UInt8 := [UInt8.ofNat (48 + W.length), 58] ++ (fmA W a ++ fmB W a b)
theorem fmB_low (W : List Nat) (a k : Nat) (h : k ≤ a + 1) : fmB W a k = [] := by
  unfold fmB
  rw [List.map_eq_nil_iff, List.filter_eq_nil_iff]
  intro b hb
  rw [List.mem_range] at hb
  simp; omega
theorem fmS_zero (W : List Nat) : fmS W 0 0 = [UInt8.ofNat (48 + W.length)] ++ [58] := rfl
theorem fmS_low (W : List Nat) (a k : Nat) (h : k ≤ a + 1) : fmS W a k = fmS W a 0 := by
  unfold fmS
  rw [fmB_low W a k h, fmB_low W a 0 (by omega)]
theorem fmS_step (W : List Nat) (a b : Nat) (h : a < b) : fmS W a (b + 1) = fmS W a b ++ [winc W a b] := by
  unfold fmS fmB
  rw [List.range_succ, List.filter_append]
  simp [h]
theorem fmS_row (W : List Nat) (a : Nat) : fmS W a W.length = fmS W (a + 1) 0 := by
  unfold fmS
  rw [fmB_low W (a + 1) 0 (by omega), List.append_nil]
  unfold fmA
  rw [List.range_succ, List.flatMap_append]
  simp
theorem fmB_le (W : List Nat) (a k : Nat) : (fmB W a k).length ≤ k := by
  unfold fmB
  rw [List.length_map]
  exact Nat.le_trans (List.length_filter_le _ _) (by simp)
theorem fmA_le (W : List Nat) (k : Nat) : (fmA W k).length ≤ W.length * k := by
  unfold fmA
  induction k with
  | zero => simp
  | succ k ih =>
    rw [List.range_succ, List.flatMap_append, List.length_append]
    have := fmB_le W k W.length
    simp only [List.flatMap_cons, List.flatMap_nil, List.append_nil]
    rw [Nat.mul_succ]
    omega
theorem fmS_le (W : List Nat) (h8 : W.length ≤ 8) (a b : Nat) (ha : a ≤ 8) (hb : b ≤ 9) : (fmS W a b).length ≤ 1000 := by
  have h1 := fmB_le W a b
  have h2 := fmA_le W a
  have h3 : W.length * a ≤ 8 * 8 := Nat.mul_le_mul h8 ha
  unfold fmS
  simp only [List.length_append, List.length_cons, List.length_nil]
  omega
theorem fmtI_small (k : Nat) (h : k < 10) : fmtI (k : Int) = ⟨[UInt8.ofNat (48 + k)].toArray⟩ := by
  unfold fmtI Lib.itoa
  rw [if_neg (by omega), Int.toNat_natCast, Lib.decDigits_one h]
theorem bit_val (x b : Nat) (h : x < 9223372036854775808) : bits .and .i64 ((x : Int) / 2 ^ b) 1 = ((if x.testBit b then 1 else 0 : Nat) : Int) := by
  have e := shr_one x b
  rw [shr_nat] at e ⊢
  rw [and_one _ (Nat.lt_of_le_of_lt (Nat.div_le_self _ _) h)]
  split <;> simp_all <;> omega
theorem fmt_bit (W : List Nat) (a b : Nat) (v : Bool) (hv : bt W a b = v) : fmtI ((if v then 1 else 0 : Nat) : Int) = ⟨[winc W a b].toArray⟩ := by
  unfold winc
  rw [hv, fmtI_small _ (by split <;> decide)]
  cases v <;> rfl
theorem add_one (o : List UInt8) (d : UInt8) (h : o.length ≤ 1000) (W' : World) : (Op.stringOp .add (ByteArray.mk o.toArray) (ByteArray.mk [d].toArray)).run Tryd.prog W' = .ok (.string ⟨(o ++ [d]).toArray⟩) W' := by
  have sz1 : (ByteArray.mk [d].toArray).size = 1 := rfl
  have sz2 : (ByteArray.mk o.toArray).size = o.length := mk_size o
  have hadd := run_string_add_sum (P := Tryd.prog) W' (ByteArray.mk o.toArray) (ByteArray.mk [d].toArray) (by rw [sz1, sz2]; omega)
  rw [ByteArray.mk_append_mk] at hadd
  exact hadd
def rFormatTour (s : Int) (zs : List Int) : ByteArray := if okB s zs then ⟨(fmS (toW zs) (toW zs).length 0).toArray⟩ else ⟨#[]⟩
theorem iFormatTour_any (A : Option Addr) (c : Nat) (s : Int) (zs : List Int) (w : World) (h : Row w w.heap.size A (ints zs)) (hl : zs.length ≤ 1099511627776) (hp : Pow w) :
    Calls Tryd.prog 26 #[.agg #[.int .i64 s, .slice A zs.length c]] w fun e w' => e = .returned (.string (rFormatTour s zs)) ∧ Below w.heap.size w w' := by
  cases ho : okB s zs with
  | false =>
    have N : Hid (rFormatTour s zs = (⟨#[]⟩)) := Lib.hid (by unfold rFormatTour; rw [ho]; rfl)
    have HO := Lib.hid ho
    clear ho
    go_enter Tryd.func26, Tryd.ntmps26
    go_wp2_with fail
    refine (iTourOk_any A c s zs _ (h.rowAt (by go_grown) (Nat.le_refl _)) hl).mono ?_
    rw [HO.out]
    rintro e w1 ⟨rfl, hb⟩
    obtain ⟨k0, k1, hbw, hsz⟩ := box1 hb
    clear hb
    go_wp2
    go_ret
    exact ⟨ret_string N.out.symm, hbw⟩
  | true =>
    obtain ⟨W, rfl, rfl, hT⟩ := ok_tour ho
    have R : Hid (rFormatTour (W.length : Int) (casts W) = (⟨(fmS W W.length 0).toArray⟩)) := Lib.hid (by unfold rFormatTour; rw [ho, toW_casts]; rfl)
    have g1 := hT.h1
    have g8 := hT.h8
    rw [casts_length]
    clear ho hl
    go_enter Tryd.func26, Tryd.ntmps26
    go_wp2_with fail
    refine (iTourOkW A c W _ hT (h.rowAt (by go_grown) (Nat.le_refl _))).mono ?_
    rintro e w1 ⟨rfl, hb⟩
    obtain ⟨k0, k1, hbw, hsz⟩ := box1 hb
    have h := h.rowAt hbw (Nat.le_refl _)
    clear hb
    have HP := Lib.hid (hp.on hbw)
    clear hp
    have HI := Lib.hid (fun W' hp' => (by have := iFormat_any (W.length : Int) W' (WalkArith.wf_i64 (by omega)) hp'; rwa [fmtI_small _ (by omega)] at this :
      Calls Tryd.prog 45 #[.int .i64 (W.length : Int)] W' fun e w' => e = .returned (.string ⟨[UInt8.ofNat (48 + W.length)].toArray⟩) ∧ Below W'.heap.size W' w'))
    have Z := Lib.hid (fmS_zero W)
    have hadd := add_one [UInt8.ofNat (48 + W.length)] 58 (by simp)
    rw [← Z.out] at hadd
    generalize UInt8.ofNat (48 + W.length) = d at *
    go_wp2_with fail
    refine (HI.out _ HP.out).mono ?_
    rintro e w2 ⟨rfl, hb2⟩
    obtain ⟨c0, c1⟩ := held_at k0 k1 hb2
    go_wp2
    clear hadd
    go_loopw [3, 15] (fun v i wr => ∃ (a : Nat) (o : List UInt8), a ≤ W.length ∧ i = .int .i64 a ∧ v = .string ⟨o.toArray⟩ ∧ Hid (o = fmS W a 0) ∧ Below w1.heap.size w1 wr) (fun _ i _ => W.length - (intOf i).toNat)
    case atStart => exact ⟨0, _, Nat.zero_le _, rfl, rfl, Lib.hid rfl, hb2⟩
    case round =>
      clear hb2 c0 c1 Z
      obtain ⟨a, o, ha, rfl, rfl, HO, hb⟩ := hrel
      obtain ⟨c0, c1⟩ := held_at k0 k1 hb
      by_cases hlt : a < W.length
      · go_wp2
        go_loopw [3, 5] (fun v i wr => ∃ (b : Nat) (o : List UInt8), a + 1 ≤ b ∧ b ≤ W.length ∧ i = .int .i64 b ∧ v = .string ⟨o.toArray⟩ ∧ Hid (o = fmS W a b) ∧ Below w1.heap.size w1 wr) (fun _ i _ => W.length - (intOf i).toNat)
        case atStart => exact ⟨a + 1, o, by omega, by omega, by go_num, rfl, Lib.hid (by rw [HO.out, fmS_low W a (a + 1) (Nat.le_refl _)]), hb⟩
        case round =>
          clear hb c0 c1 HO
          obtain ⟨b, o, hab, hbl, rfl, rfl, HO, hb⟩ := hrel
          obtain ⟨c0, c1⟩ := held_at k0 k1 hb
          by_cases hltb : b < W.length
          · obtain ⟨bk, off, rfl, _, hc⟩ := (h.rowAt hb (Nat.le_refl _)).nat hlt
            have hx := hT.lt256' hlt
            have HS := Lib.hid (fmS_step W a b (by omega))
            have HC := Lib.hid (fun (W' : World) (hp' : Pow W') => (by
              have e := bit_val W[a] b (by omega)
              have := iFormat_any ((if bt W a b then 1 else 0 : Nat) : Int) W' (by split <;> decide) hp'
              rwa [fmt_bit W a b _ rfl, bt_lt hlt, ← e] at this :
              Calls Tryd.prog 45 #[.int .i64 (bits .and .i64 ((W[a] : Int) / 2 ^ b) 1)] W' fun e w' => e = .returned (.string ⟨[winc W a b].toArray⟩) ∧ Below W'.heap.size W' w'))
            have hlen : o.length ≤ 1000 := by rw [HO.out]; exact fmS_le W g8 a b (by omega) (by omega)
            have hadd := add_one o (winc W a b) hlen
            generalize winc W a b = d at *
            generalize W[a] = x at *
            go_wp2_with fail
            refine (HC.out _ (HP.out.on hb)).mono ?_
            rintro e wq ⟨rfl, hbq⟩
            go_wp2
            go_roundw
            case rel => exact ⟨b + 1, _, by omega, by omega, by go_num, rfl, Lib.hid (by rw [HO.out, HS.out]), below_trans hb hbq⟩
            case measure => simp [intOf]; omega
          · obtain rfl : b = W.length := by omega
            have HS := Lib.hid (fmS_row W a)
            go_wp2
            go_roundw
            case rel => exact ⟨a + 1, o, by omega, by go_num, rfl, Lib.hid (by rw [HO.out, HS.out]), hb⟩
            case measure => simp [intOf]; omega
      · obtain rfl : a = W.length := by omega
        go_wp2
        go_ret
        exact ⟨ret_string (by rw [R.out, HO.out]), below_trans hbw hb⟩
theorem sFormatTour_any (A : Option Addr) (c : Nat) (s : Int) (zs : List Int) (w : World) (h : Row w w.heap.size A (ints zs)) (hl : zs.length ≤ 1099511627776) :
    Calls Tryd.prog 22 #[.agg #[.int .i64 s, .slice A zs.length c]] w fun e w' => e = .returned (.string (rFormatTour s zs)) ∧ Below w.heap.size w w' := by
  cases ho : okB s zs with
  | false =>
    have N : Hid (rFormatTour s zs = (⟨#[]⟩)) := Lib.hid (by unfold rFormatTour; rw [ho]; rfl)
    have HO := Lib.hid ho
    clear ho
    go_enter Tryd.func22, Tryd.ntmps22
    go_wp2_with fail
    refine (sTourOk_any A c s zs _ (h.rowAt (by go_grown) (Nat.le_refl _)) hl).mono ?_
    rw [HO.out]
    rintro e w1 ⟨rfl, hb⟩
    obtain ⟨k0, k1, hbw, hsz⟩ := box1 hb
    clear hb
    go_wp2
    go_ret
    exact ⟨ret_string N.out.symm, hbw⟩
  | true =>
    obtain ⟨W, rfl, rfl, hT⟩ := ok_tour ho
    have R : Hid (rFormatTour (W.length : Int) (casts W) = (⟨(fmS W W.length 0).toArray⟩)) := Lib.hid (by unfold rFormatTour; rw [ho, toW_casts]; rfl)
    have g1 := hT.h1
    have g8 := hT.h8
    rw [casts_length]
    clear ho hl
    go_enter Tryd.func22, Tryd.ntmps22
    go_wp2_with fail
    refine (sTourOkW A c W _ hT (h.rowAt (by go_grown) (Nat.le_refl _))).mono ?_
    rintro e w1 ⟨rfl, hb⟩
    obtain ⟨k0, k1, hbw, hsz⟩ := box1 hb
    have h := h.rowAt hbw (Nat.le_refl _)
    clear hb
    have HI := Lib.hid (fun W' => (by have := sFormat_any (W.length : Int) W' (WalkArith.wf_i64 (by omega)); rwa [fmtI_small _ (by omega)] at this :
      Calls Tryd.prog 41 #[.int .i64 (W.length : Int)] W' fun e w' => e = .returned (.string ⟨[UInt8.ofNat (48 + W.length)].toArray⟩) ∧ Below W'.heap.size W' w'))
    have Z := Lib.hid (fmS_zero W)
    have hadd := add_one [UInt8.ofNat (48 + W.length)] 58 (by simp)
    rw [← Z.out] at hadd
    generalize UInt8.ofNat (48 + W.length) = d at *
    go_wp2_with fail
    refine (HI.out _).mono ?_
    rintro e w2 ⟨rfl, hb2⟩
    obtain ⟨c0, c1⟩ := held_at k0 k1 hb2
    go_wp2
    clear hadd
    go_loopw [3, 16] (fun v i wr => ∃ (a : Nat) (o : List UInt8), a ≤ W.length ∧ i = .int .i64 a ∧ v = .string ⟨o.toArray⟩ ∧ Hid (o = fmS W a 0) ∧ Below w1.heap.size w1 wr) (fun _ i _ => W.length - (intOf i).toNat)
    case atStart => exact ⟨0, _, Nat.zero_le _, rfl, rfl, Lib.hid rfl, hb2⟩
    case round =>
      clear hb2 c0 c1 Z
      obtain ⟨a, o, ha, rfl, rfl, HO, hb⟩ := hrel
      obtain ⟨c0, c1⟩ := held_at k0 k1 hb
      by_cases hlt : a < W.length
      · go_wp2
        go_loopw [3, 5] (fun v i wr => ∃ (b : Nat) (o : List UInt8), a + 1 ≤ b ∧ b ≤ W.length ∧ i = .int .i64 b ∧ v = .string ⟨o.toArray⟩ ∧ Hid (o = fmS W a b) ∧ Below w1.heap.size w1 wr) (fun _ i _ => W.length - (intOf i).toNat)
        case atStart => exact ⟨a + 1, o, by omega, by omega, by go_num, rfl, Lib.hid (by rw [HO.out, fmS_low W a (a + 1) (Nat.le_refl _)]), hb⟩
        case round =>
          clear hb c0 c1 HO
          obtain ⟨b, o, hab, hbl, rfl, rfl, HO, hb⟩ := hrel
          obtain ⟨c0, c1⟩ := held_at k0 k1 hb
          by_cases hltb : b < W.length
          · have HS := Lib.hid (fmS_step W a b (by omega))
            have hlen : o.length ≤ 1000 := by rw [HO.out]; exact fmS_le W g8 a b (by omega) (by omega)
            cases hv : bt W a b
            · have HW := Lib.hid (show winc W a b = 48 by unfold winc; rw [hv]; rfl)
              have HC := Lib.hid (fun W' hr => l02BeatsW_any A c W a b false hv W' hT hr hlt hltb)
              have hadd := add_one o 48 hlen
              go_wp2_with fail
              refine (HC.out _ (h.rowAt hb (Nat.le_refl _))).mono ?_
              rintro e wq ⟨rfl, hbq⟩
              go_wp2
              go_roundw
              case rel => exact ⟨b + 1, _, by omega, by omega, by go_num, rfl, Lib.hid (by rw [HO.out, HS.out, HW.out]), below_trans hb hbq⟩
              case measure => simp [intOf]; omega
            · have HW := Lib.hid (show winc W a b = 49 by unfold winc; rw [hv]; rfl)
              have HC := Lib.hid (fun W' hr => l02BeatsW_any A c W a b true hv W' hT hr hlt hltb)
              have hadd := add_one o 49 hlen
              go_wp2_with fail
              refine (HC.out _ (h.rowAt hb (Nat.le_refl _))).mono ?_
              rintro e wq ⟨rfl, hbq⟩
              go_wp2
              go_roundw
              case rel => exact ⟨b + 1, _, by omega, by omega, by go_num, rfl, Lib.hid (by rw [HO.out, HS.out, HW.out]), below_trans hb hbq⟩
              case measure => simp [intOf]; omega
          · obtain rfl : b = W.length := by omega
            have HS := Lib.hid (fmS_row W a)
            go_wp2
            go_roundw
            case rel => exact ⟨a + 1, o, by omega, by go_num, rfl, Lib.hid (by rw [HO.out, HS.out]), hb⟩
            case measure => simp [intOf]; omega
      · obtain rfl : a = W.length := by omega
        go_wp2
        go_ret
        exact ⟨ret_string (by rw [R.out, HO.out]), below_trans hbw hb⟩
end Go.Proofs.YtaocjjocncoahaaDoor
