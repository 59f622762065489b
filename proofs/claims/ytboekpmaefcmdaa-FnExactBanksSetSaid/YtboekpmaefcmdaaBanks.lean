/- BanksSet, walked. -/
import Derived.Test.YtboekpmaefcmdaaBanksP
namespace Go.Proofs.Ytboekpmaefcmdaa
open Go.RowKit

/-- The number that lies where p points. -/
def ptrN (w : World) (p : Value) : Nat := match p with
  | .pointer (some a) => match w.cell? a with
    | some (.int _ n) => n.toNat
    | _ => 0
  | _ => 0
theorem ptrN_of {w : World} {b k : Nat} (h : w.cell? ⟨b, 0, none⟩ = some (.int .i64 (k : Int))) : ptrN w (.pointer (some ⟨b, 0, none⟩)) = k := by
  unfold ptrN
  simp only [h, Int.toNat_natCast]
theorem casts_lt {W : List Nat} (hT : IsT W) {z : Int} (hz : z ∈ casts W) : ∃ v : Nat, z = (v : Int) ∧ v < 256 := by
  unfold casts at hz
  obtain ⟨v, hv, rfl⟩ := List.mem_map.1 hz
  obtain ⟨i, hi, rfl⟩ := List.mem_iff_getElem.1 hv
  exact ⟨W[i], rfl, hT.lt256' hi⟩
theorem banks_pred (W : List Nat) (y b : Nat) (w : World) (hT : IsT W) (hy : y < 256) (hb : b < w.heap.size) (hc : w.cell? ⟨b, 0, none⟩ = some (.int .i64 (y : Int))) :
    PredOn 78 #[.pointer (some ⟨b, 0, none⟩)] (fun z => (z.toNat &&& y) == y) (casts W) w := by
  intro V z hbV hz
  obtain ⟨v, rfl, hv⟩ := casts_lt hT hz
  have hcV := (hbV.cell (p := ⟨b, 0, none⟩) hb).trans hc
  have E1 := and_nat v y (by omega) (by omega)
  simp only [Int.toNat_natCast]
  have hd : (((v &&& y : Nat) : Int) == (y : Int)) = ((v &&& y) == y) := by rw [Bool.eq_iff_iff, beq_iff_eq, beq_iff_eq]; omega
  have HD := Lib.hid hd
  clear hd hc hb hbV hz
  generalize v &&& y = q at *
  go_enter Try.func78, Try.ntmps78
  go_wp2
  go_ret
  exact ⟨ret_bool (by rw [← HD.out]), Below.refl _ _⟩
theorem bk_next {W : List Nat} {j : Nat} (h : onB W (j + 1) = false ∨ covB W (j + 1) = true) : bkJ W (j + 1) = bkJ W j := by
  rw [bkJ]
  unfold bkT
  rcases h with h | h <;> rw [h] <;> simp
theorem bk_take {W : List Nat} (hT : IsT W) {j : Nat} (hj : j + 1 < 2 ^ W.length) (h1 : onB W (j + 1) = true) (h2 : covB W (j + 1) = false) : orK W (j + 1) (bkJ W j) (mem 8 (j + 1)) = bkJ W (j + 1) := by
  rw [orK_end hT hj, bkJ]
  unfold bkT
  rw [h1, h2]
  rfl
set_option maxHeartbeats 1600000 in
theorem iBanksSet_any (A : Option Addr) (c : Nat) (s : Int) (zs : List Int) (w : World) (h : Row w w.heap.size A (ints zs)) (hl : zs.length ≤ 1099511627776) :
    Calls Try.prog 35 #[.agg #[.int .i64 s, .slice A zs.length c]] w fun e w' => e = .returned (.int .i64 (rBanksSet s zs)) ∧ Below w.heap.size w w' := by
  cases ho : okB s zs with
  | false =>
    have N : Hid (rBanksSet s zs = (0)) := Lib.hid (by unfold rBanksSet; rw [ho]; rfl)
    have HO := Lib.hid ho
    clear ho
    go_enter Try.func35, Try.ntmps35
    go_wp2_with fail
    refine (iTourOk_any A c s zs _ (h.rowAt (by go_grown) (Nat.le_refl _)) hl).mono ?_
    rw [HO.out]
    rintro e w1 ⟨rfl, hb⟩
    obtain ⟨k0, k1, hbw, hsz⟩ := box1 hb
    clear hb
    go_wp2
    go_ret
    exact ⟨ret_int N.out.symm, hbw⟩
  | true =>
    obtain ⟨W, rfl, rfl, hT⟩ := ok_tour ho
    have R : Hid (rBanksSet (W.length : Int) (casts W) = (((bkJ W (2 ^ W.length - 1) : Nat) : Int))) := Lib.hid (by unfold rBanksSet; rw [ho, toW_casts]; rfl)
    have g1 := hT.h1
    have g8 := hT.h8
    rw [casts_length]
    clear ho hl
    go_enter Try.func35, Try.ntmps35
    go_wp2_with fail
    refine (iTourOkW A c W _ hT (h.rowAt (by go_grown) (Nat.le_refl _))).mono ?_
    rintro e w1 ⟨rfl, hb⟩
    obtain ⟨k0, k1, hbw, hsz⟩ := box1 hb
    have h := h.rowAt hbw (Nat.le_refl _)
    clear hb
    obtain ⟨p1, p2⟩ := pow_bd W.length g1 g8
    have hp2 : 2 ≤ 2 ^ W.length := by have : (2 : Nat) ^ 1 ≤ 2 ^ W.length := Nat.pow_le_pow_right (by omega) g1; omega
    have HPN := Lib.hid (pow_cast W.length)
    have HP8 := Lib.hid (pow_le8 W.length g8)
    have hq : (1 : Int) * 2 ^ W.length = 2 ^ W.length := by omega
    go_wp2
    go_loopw [3, 4] (fun v p wr => ∃ j b : Nat, j + 1 ≤ 2 ^ W.length ∧ p = .pointer (some ⟨b, 0, none⟩) ∧ w1.heap.size ≤ b ∧ b < wr.heap.size ∧ wr.cell? ⟨b, 0, none⟩ = some (.int .i64 ((j + 1 : Nat) : Int)) ∧ wr.frozen? ⟨b, 0, none⟩ = false ∧ v = .int .i64 (bkJ W j : Nat) ∧ Below w1.heap.size w1 wr) (fun _ p wr => 2 ^ W.length - ptrN wr p)
    case atStart => exact ⟨0, w1.heap.size, by omega, rfl, Nat.le_refl _, by simp, by go_simp, by go_simp, rfl, (Below.refl _ _).alloc (Nat.le_refl _) _⟩
    case round =>
      obtain ⟨j, b, hj, rfl, hbl, hbw2, cb, fb, rfl, hb⟩ := hrel
      obtain ⟨c0, c1⟩ := held_at k0 k1 hb
      have HPT := Lib.hid (ptrN_of cb)
      by_cases hlt : j + 1 < 2 ^ W.length
      · have hlt' : (j : Int) + 1 < 2 ^ W.length := by have := HPN.out; omega
        have h256 := HP8.out
        have hol := bkJ_lt W j
        have hT2 := Lib.hid hT
        have e1 : ((j + 1 : Nat) : Int) = (j : Int) + 1 := rfl
        rw [e1] at cb
        have HBN := Lib.hid (fun h => @bk_next W j h)
        have HBT := Lib.hid (fun h1 h2 => @bk_take W hT j hlt h1 h2)
        have HTA := Lib.hid (fun W' hr => isTransitiveOn_any A c W (j + 1) W' hT hr (Nat.succ_pos j) hlt)
        go_wp2
        go_quiet (fail)
        go_wp2_with fail
        refine (HTA.out _ (h.rowAt (below_drewN hb _) (Nat.le_refl _))).mono ?_
        rintro e wt ⟨rfl, hbt⟩
        have hb9 := below_trans (below_drewN hb _) hbt
        have cbt := (hbt.cell (p := ⟨b, 0, none⟩) hbw2).trans cb
        have hbw9 : b < wt.heap.size := Nat.lt_of_lt_of_le hbw2 hbt.size
        obtain ⟨c0, c1⟩ := held_at k0 k1 hb9
        clear cb fb hbt
        cases h2 : onB W (j + 1) with
        | false =>
          have HN := Lib.hid (HBN.out (.inl h2))
          clear h2
          · go_wp2
            go_roundw
            case rel => exact ⟨j + 1, wt.heap.size, by omega, rfl, hb9.size, by simp, (by first | (go_simp; done) | (go_simp; omega) | (go_simp; congr 1; omega)), by go_simp, by rw [HN.out], (by first | exact hb9.alloc hb9.size _ | exact (hb9.alloc hb9.size _).drew | exact (hb9.drew).alloc hb9.size _)⟩
            case measure => rw [HPT.out, ptrN_of (k := j + 1 + 1) (by first | (go_simp; done) | (go_simp; omega) | (go_simp; congr 1; omega))]; omega
        | true =>
          have HCF := Lib.hid (fun (W' : World) (hr : Row W' W'.heap.size A (ints (casts W))) (hbW : b < W'.heap.size) (hc : W'.cell? ⟨b, 0, none⟩ = some (.int .i64 ((j + 1 : Nat) : Int))) => (by
            have hx := containsFunc_any 78 #[.pointer (some ⟨b, 0, none⟩)] (enters_of Try.func78 (by kernel_rfl) rfl) A c (casts W) _ W' (banks_pred W (j + 1) b W' hT2.out (by omega) hbW hc) hr (by rw [casts_length]; omega)
            rw [casts_length, cov_any W hT2.out (j + 1) (by omega)] at hx
            exact hx :
            Calls Try.prog 77 #[.slice A W.length c, .func (.func 78) #[] #[.pointer (some ⟨b, 0, none⟩)]] W' fun e w' => e = .returned (.bool (covB W (j + 1))) ∧ Below W'.heap.size W' w'))
          go_wp2_with fail
          refine (HCF.out _ (h.rowAt hb9 (Nat.le_refl _)) hbw9 (by rw [e1]; exact cbt)).mono ?_
          rintro e wc ⟨rfl, hbc⟩
          have hb10 := below_trans hb9 hbc
          have cbc := (hbc.cell (p := ⟨b, 0, none⟩) hbw9).trans cbt
          have hbw10 : b < wc.heap.size := Nat.lt_of_lt_of_le hbw9 hbc.size
          obtain ⟨c0, c1⟩ := held_at k0 k1 hb10
          clear cbt hbc HCF
          cases h3 : covB W (j + 1) with
          | true =>
            have HN := Lib.hid (HBN.out (.inr h3))
            clear h2 h3
            go_wp2
            go_roundw
            case rel => exact ⟨j + 1, wc.heap.size, by omega, rfl, hb10.size, by simp, (by first | (go_simp; done) | (go_simp; omega) | (go_simp; congr 1; omega)), by go_simp, by rw [HN.out], (by first | exact hb10.alloc hb10.size _ | exact (hb10.alloc hb10.size _).drew | exact (hb10.drew).alloc hb10.size _)⟩
            case measure => rw [HPT.out, ptrN_of (k := j + 1 + 1) (by first | (go_simp; done) | (go_simp; omega) | (go_simp; congr 1; omega))]; omega
          | false =>
            have HN := Lib.hid (HBT.out h2 h3)
            clear h2 h3
            have e3 : ((j : Int) + 1).toNat = j + 1 := by omega
            go_wp2_with fail
            refine (membersOf_any ((j : Int) + 1) _ (by omega) (by omega)).mono ?_
            rw [e3]
            rintro e wl ⟨M, dM, rfl, hoM, hbm⟩
            rw [casts_length]
            have hrM : Row wl wl.heap.size M (ints (casts (mem 8 (j + 1)))) := hoM.row
            have hmk : (mem 8 (j + 1)).length ≤ 8 := by rw [mem_length]; exact pc_le 8 _
            have HML := Lib.hid (fun k hk => mem_lt W.length (j + 1) hlt k hk)
            have HOS := Lib.hid (fun k hk => orK_snoc W (j + 1) (bkJ W j) (mem 8 (j + 1)) k hk)
            have HOL := Lib.hid (fun k => orK_lt hT2.out hlt hol k)
            have hb11 := below_trans hb10 hbm
            have cbl := (hbm.cell (p := ⟨b, 0, none⟩) hbw10).trans cbc
            have hbw11 : b < wl.heap.size := Nat.lt_of_lt_of_le hbw10 hbm.size
            clear hoM hbm e3 cbc c0 c1
            go_wp2
            obtain ⟨wo, rfl⟩ : ∃ wo : World, wo = wr := ⟨_, rfl⟩
            go_loopw [3, 30] (fun v i wr => ∃ k : Nat, k ≤ (mem 8 (j + 1)).length ∧ i = .int .i64 (k : Int) ∧ v = .int .i64 (orK W (j + 1) (bkJ W j) ((mem 8 (j + 1)).take k) : Nat) ∧ Below wl.heap.size wl wr) (fun _ i _ => (mem 8 (j + 1)).length - (intOf i).toNat)
            case atStart => exact ⟨0, Nat.zero_le _, rfl, rfl, Below.refl _ _⟩
            case round =>
              obtain ⟨k, hk, rfl, rfl, hbi⟩ := hrel
              have hb12 := below_trans hb11 hbi
              obtain ⟨c0, c1⟩ := held_at k0 k1 hb12
              have cbi := (hbi.cell (p := ⟨b, 0, none⟩) hbw11).trans cbl
              by_cases hlk : k < (mem 8 (j + 1)).length
              · obtain ⟨bM, oM, rfl, _, hcM⟩ := (hrM.rowAt hbi (Nat.le_refl _)).nat hlk
                have han := HML.out k hlk
                have HS := Lib.hid (HOS.out k hlk)
                have hok := HOL.out k
                have hok2 := HOL.out (k + 1)
                generalize (mem 8 (j + 1))[k] = a at *
                obtain ⟨bA, oA, rfl, _, hcA⟩ := (h.rowAt hb12 (Nat.le_refl _)).nat han
                have hxA := hT2.out.lt256' han
                have E1 := andNot_nat (j + 1) W[a] (by omega) hxA
                have hnb : ofB 8 (fun i => (j + 1).testBit i && !W[a].testBit i) = notB W (j + 1) a := by unfold notB; rw [getD_lt _ _ _ han]
                rw [hnb, e1] at E1
                have hz := ofB_lt 8 (fun i => (j + 1).testBit i && !W[a].testBit i)
                rw [hnb] at hz
                obtain ⟨r1, r2⟩ := pow_small a (by omega)
                have hw1 : IntKind.i64.wrap (2 ^ a) = 2 ^ a := by rw [IntKind.wrap_i64]; omega
                have hq2 : (1 : Int) * 2 ^ a = 2 ^ a := by omega
                have HTT : Hid (topA W (j + 1) a = (notB W (j + 1) a == 2 ^ a)) := Lib.hid rfl
                have HPA := Lib.hid (pow_cast a)
                clear hnb
                generalize W[a] = x at *
                generalize notB W (j + 1) a = z at *
                generalize orK W (j + 1) (bkJ W j) ((mem 8 (j + 1)).take k) = v at *
                by_cases hta : z = 2 ^ a
                · have HS2 : Hid (orK W (j + 1) (bkJ W j) ((mem 8 (j + 1)).take (k + 1)) = 2 ^ a ||| v) := Lib.hid (by rw [HS.out, HTT.out, hta]; simp [Nat.or_comm])
                  have et : ((z : Int) == 2 ^ a) = true := by rw [hta, HPA.out]; simp
                  have E2 := or_pow' a v (by omega) (by omega)
                  clear hta HS
                  go_wp2
                  go_quiet (fail)
                  go_wp2
                  go_roundw
                  case rel => exact ⟨k + 1, by omega, by go_num, (by rw [HS2.out]), below_drewN hbi _⟩
                  case measure => simp [intOf]; omega
                · have HS2 : Hid (orK W (j + 1) (bkJ W j) ((mem 8 (j + 1)).take (k + 1)) = v) := Lib.hid (by rw [HS.out, HTT.out]; simp [hta])
                  have et : ((z : Int) == 2 ^ a) = false := by rw [beq_eq_false_iff_ne, HPA.out]; omega
                  clear hta HS
                  go_wp2
                  go_quiet (fail)
                  go_wp2
                  go_roundw
                  case rel => exact ⟨k + 1, by omega, by go_num, by rw [HS2.out], below_drewN hbi _⟩
                  case measure => simp [intOf]; omega
              · obtain rfl : k = (mem 8 (j + 1)).length := by omega
                have HF : Hid (orK W (j + 1) (bkJ W j) ((mem 8 (j + 1)).take (mem 8 (j + 1)).length) = bkJ W (j + 1)) := Lib.hid (by rw [List.take_length]; exact HN.out)
                rw [HF.out]
                clear hmk
                go_wp2
                go_roundw
                case rel => exact ⟨j + 1, wr.heap.size, by omega, rfl, hb12.size, by simp, (by first | (go_simp; done) | (go_simp; omega) | (go_simp; congr 1; omega)), by go_simp, rfl, (by first | exact hb12.alloc hb12.size _ | exact (hb12.alloc hb12.size _).drew | exact (hb12.drew).alloc hb12.size _)⟩
                case measure => rw [HPT.out, ptrN_of (k := j + 1 + 1) (by first | (go_simp; done) | (go_simp; omega) | (go_simp; congr 1; omega))]; omega
      · have hlt' : ¬ (j : Int) + 1 < 2 ^ W.length := by have := HPN.out; omega
        have EJ := Lib.hid (show 2 ^ W.length - 1 = j by omega)
        have e1 : ((j + 1 : Nat) : Int) = (j : Int) + 1 := rfl
        rw [e1] at cb
        go_wp2
        go_quiet (fail)
        go_wp2
        go_ret
        exact ⟨ret_int (by rw [R.out, EJ.out]), below_drewN (below_trans hbw hb) _⟩
set_option maxHeartbeats 1600000 in
theorem sBanksSet_any (A : Option Addr) (c : Nat) (s : Int) (zs : List Int) (w : World) (h : Row w w.heap.size A (ints zs)) (hl : zs.length ≤ 1099511627776) :
    Calls Try.prog 34 #[.agg #[.int .i64 s, .slice A zs.length c]] w fun e w' => e = .returned (.int .i64 (rBanksSet s zs)) ∧ Below w.heap.size w w' := by
  cases ho : okB s zs with
  | false =>
    have N : Hid (rBanksSet s zs = (0)) := Lib.hid (by unfold rBanksSet; rw [ho]; rfl)
    have HO := Lib.hid ho
    clear ho
    go_enter Try.func34, Try.ntmps34
    go_wp2_with fail
    refine (sTourOk_any A c s zs _ (h.rowAt (by go_grown) (Nat.le_refl _)) hl).mono ?_
    rw [HO.out]
    rintro e w1 ⟨rfl, hb⟩
    obtain ⟨k0, k1, hbw, hsz⟩ := box1 hb
    clear hb
    go_wp2
    go_ret
    exact ⟨ret_int N.out.symm, hbw⟩
  | true =>
    obtain ⟨W, rfl, rfl, hT⟩ := ok_tour ho
    have R : Hid (rBanksSet (W.length : Int) (casts W) = (((bkJ W (2 ^ W.length - 1) : Nat) : Int))) := Lib.hid (by unfold rBanksSet; rw [ho, toW_casts]; rfl)
    have g1 := hT.h1
    have g8 := hT.h8
    rw [casts_length]
    clear ho hl
    go_enter Try.func34, Try.ntmps34
    go_wp2_with fail
    refine (sTourOkW A c W _ hT (h.rowAt (by go_grown) (Nat.le_refl _))).mono ?_
    rintro e w1 ⟨rfl, hb⟩
    obtain ⟨k0, k1, hbw, hsz⟩ := box1 hb
    have h := h.rowAt hbw (Nat.le_refl _)
    clear hb
    obtain ⟨p1, p2⟩ := pow_bd W.length g1 g8
    have hp2 : 2 ≤ 2 ^ W.length := by have : (2 : Nat) ^ 1 ≤ 2 ^ W.length := Nat.pow_le_pow_right (by omega) g1; omega
    have HPN := Lib.hid (pow_cast W.length)
    have HP8 := Lib.hid (pow_le8 W.length g8)
    go_wp2
    go_loopw [3, 4] (fun v i wr => ∃ j : Nat, j + 1 ≤ 2 ^ W.length ∧ i = .int .i64 ((j + 1 : Nat) : Int) ∧ v = .int .i64 (bkJ W j : Nat) ∧ Below w1.heap.size w1 wr) (fun _ i _ => 2 ^ W.length - (intOf i).toNat)
    case atStart => exact ⟨0, by omega, rfl, by rw [bkJ]; rfl, Below.refl _ _⟩
    case round =>
      obtain ⟨j, hj, rfl, rfl, hb⟩ := hrel
      obtain ⟨c0, c1⟩ := held_at k0 k1 hb
      go_wp2_with fail
      refine (l02All_any A c W.length _ g1 g8).mono ?_
      rintro e wa ⟨rfl, hba⟩
      have hb := below_trans hb hba
      obtain ⟨c0, c1⟩ := held_at k0 k1 hb
      by_cases hlt : j + 1 < 2 ^ W.length
      · have hlt' : (j : Int) + 1 ≤ 2 ^ W.length - 1 := by have := HPN.out; omega
        have h256 := HP8.out
        have hol := bkJ_lt W j
        have hnl := bkJ_lt W (j + 1)
        have e1 : ((j + 1 : Nat) : Int) = (j : Int) + 1 := rfl
        have hT2 := Lib.hid hT
        have HBN := Lib.hid (fun h => @bk_next W j h)
        have HBJ : Hid (onB W (j + 1) = true → covB W (j + 1) = false → bkJ W (j + 1) = bkJ W j ||| tops W (j + 1)) := Lib.hid (fun h1 h2 => by rw [bkJ]; unfold bkT; rw [h1, h2]; rfl)
        have hTp := partW_ok hT (Nat.succ_pos j) hlt
        have HTp := Lib.hid hTp
        have hp9 := hTp.h8
        generalize hbs : bkJ W j = bs at *
        go_wp2_with fail
        refine (sPartTourW A c W (j + 1) _ hT (h.rowAt hb (Nat.le_refl _)) (Nat.succ_pos j) hlt).mono ?_
        rintro e wp ⟨B, d, rfl, hoP, hbp⟩
        have hb2 := below_trans hb hbp
        obtain ⟨c0, c1⟩ := held_at k0 k1 hb2
        have hRP : Row wp wp.heap.size B (ints (casts (partW W (j + 1)))) := hoP.row
        have hTR := triRows_le (partW W (j + 1)) hp9
        have HON : Hid (onB W (j + 1) = decide ((triRows (partW W (j + 1))).length = 0)) := Lib.hid rfl
        have d0 : ∀ o, (wp.alloc o).cell? ⟨w.heap.size, 0, none⟩ = some (.int .i64 (W.length : Int)) := fun o => (World.cell?_alloc_lt wp o _ (World.block_lt_of_cell? _ _ c0)).trans c0
        have d1 : ∀ o, (wp.alloc o).cell? ⟨w.heap.size, 1, none⟩ = some (.slice A W.length c) := fun o => (World.cell?_alloc_lt wp o _ (World.block_lt_of_cell? _ _ c1)).trans c1
        have HBB := Lib.hid (fun o => (Below.refl wp.heap.size wp).alloc (Nat.le_refl _) o)
        clear hoP
        go_wp2_with fail
        refine (l04All_any B d (partW W (j + 1)) _ HTp.out (hRP.rowAt (HBB.out _) (Nat.le_refl _))).mono ?_
        rintro e w5 ⟨T, dT, rfl, hoT, hbt⟩
        clear hoT d0 d1
        have hb3 := below_trans hb2 (below_trans (HBB.out _) hbt)
        obtain ⟨c0, c1⟩ := held_at k0 k1 hb3
        cases h2 : onB W (j + 1) with
        | false =>
          have HN := Lib.hid (HBN.out (.inl h2))
          have hz := HON.out
          rw [h2] at hz
          have hz2 := of_decide_eq_false hz.symm
          have et : 0 < ((triRows (partW W (j + 1))).length : Int) := by omega
          clear hz hz2 h2
          generalize (triRows (partW W (j + 1))).length = m at *
          go_wp2
          go_roundw
          case rel => exact ⟨j + 1, by omega, by go_num, (by rw [HN.out]), hb3⟩
          case measure => simp [intOf]; omega
        | true =>
          have hz := HON.out
          rw [h2] at hz
          have hz2 := of_decide_eq_true hz.symm
          have HZ := Lib.hid hz2
          clear hz hz2
          rw [HZ.out]
          have HFU := Lib.hid (fuK_succ W (j + 1))
          have HFE := Lib.hid (fuK_end W (j + 1))
          have HFL := Lib.hid (fun k hk => fsK_lt hT2.out hlt k hk)
          have HFI : Hid (fsK W (j + 1) W.length = tops W (j + 1)) := Lib.hid (fsK_is hT2.out hlt W.length)
          have hW := h.rowAt hb3 (Nat.le_refl _)
          go_wp2
          go_loop [7, 8, 33] (fun u v i => ∃ k : Nat, k ≤ W.length ∧ i = .int .i64 (k : Int) ∧ u = .bool (fuK W (j + 1) k) ∧ v = .int .i64 (fsK W (j + 1) k : Nat)) (fun _ _ i => W.length - (intOf i).toNat)
          case atStart => exact ⟨0, Nat.zero_le _, rfl, rfl, rfl⟩
          case round =>
            obtain ⟨k, hk, rfl, rfl, rfl⟩ := hrel
            by_cases hlk : k < W.length
            · obtain ⟨bA, oA, rfl, _, hcA⟩ := hW.nat hlk
              have hxA := hT2.out.lt256' hlk
              have HS := Lib.hid (HFU.out k)
              have HFS : Hid (fsK W (j + 1) (k + 1) = if ((j + 1).testBit k && (notB W (j + 1) k == 2 ^ k)) = true then 2 ^ k else fsK W (j + 1) k) := Lib.hid rfl
              have hfl := HFL.out k hk
              have E1 := andNot_nat (j + 1) W[k] (by omega) hxA
              have hnb : ofB 8 (fun i => (j + 1).testBit i && !W[k].testBit i) = notB W (j + 1) k := by unfold notB; rw [getD_lt _ _ _ hlk]
              have hz := ofB_lt 8 (fun i => (j + 1).testBit i && !W[k].testBit i)
              rw [hnb] at hz E1
              rw [e1] at E1
              obtain ⟨r1, r2⟩ := pow_small k (by omega)
              have hw1 : IntKind.i64.wrap (2 ^ k) = 2 ^ k := by rw [IntKind.wrap_i64]; omega
              have hq2 : (1 : Int) * 2 ^ k = 2 ^ k := by omega
              have HPA := Lib.hid (pow_cast k)
              have hbt := bit_test (j + 1) k (by omega)
              rw [e1] at hbt
              have HBT := Lib.hid hbt
              have e0 : (0 : Int) ≤ ((j : Int) + 1) / 2 ^ k := by have := shr_nat (j + 1) k; rw [e1] at this; rw [this]; exact Int.natCast_nonneg _
              clear hnb hbt
              generalize W[k] = x at *
              generalize notB W (j + 1) k = z at *
              have hbk : ∃ bk, bk = (j + 1).testBit k := ⟨_, rfl⟩
              obtain ⟨bk, hbk⟩ := hbk
              rw [← hbk] at HBT HFS
              have HBK := Lib.hid hbk
              clear hbk
              by_cases hz0 : z = 0
              · have hs0 : fuK W (j + 1) (k + 1) = false := by rw [HS.out, hz0]; simp
                have HS0 := Lib.hid hs0
                have et : ((z : Int) == 0) = true := by rw [hz0]; rfl
                have hne : ¬ z = 2 ^ k := by have := Nat.two_pow_pos k; omega
                have et2 : ((z : Int) == 2 ^ k) = false := by rw [beq_eq_false_iff_ne, HPA.out]; omega
                have hf0 : fsK W (j + 1) (k + 1) = fsK W (j + 1) k := by rw [HFS.out]; simp [hne]
                have HF0 := Lib.hid hf0
                clear hs0 hf0 hz0 hne HS HFS
                generalize fsK W (j + 1) k = fk at *
                cases bk with
                | true =>
                  have et3 := HBT.out
                  go_wp2
                  go_round
                  case rel => exact ⟨k + 1, by omega, by go_num, by rw [HS0.out], by rw [HF0.out]⟩
                  case measure => simp [intOf]; omega
                | false =>
                  have et3 := HBT.out
                  go_wp2
                  go_round
                  case rel => exact ⟨k + 1, by omega, by go_num, by rw [HS0.out], by rw [HF0.out]⟩
                  case measure => simp [intOf]; omega
              · have hs0 : fuK W (j + 1) (k + 1) = fuK W (j + 1) k := by rw [HS.out]; simp [hz0]
                have HS0 := Lib.hid hs0
                have et : ((z : Int) == 0) = false := by rw [beq_eq_false_iff_ne]; omega
                clear hs0 hz0 HS
                generalize fuK W (j + 1) k = uk at *
                by_cases hzp : z = 2 ^ k
                · have et2 : ((z : Int) == 2 ^ k) = true := by rw [hzp, HPA.out]; simp
                  cases bk with
                  | true =>
                    have et3 := HBT.out
                    have HF0 : Hid (fsK W (j + 1) (k + 1) = 2 ^ k) := Lib.hid (by rw [HFS.out, hzp]; simp)
                    clear hzp HFS
                    go_wp2
                    go_round
                    case rel => exact ⟨k + 1, by omega, by go_num, by rw [HS0.out], by rw [HF0.out, ← HPA.out]⟩
                    case measure => simp [intOf]; omega
                  | false =>
                    have et3 := HBT.out
                    have HF0 : Hid (fsK W (j + 1) (k + 1) = fsK W (j + 1) k) := Lib.hid (by rw [HFS.out]; simp)
                    clear hzp HFS
                    go_wp2
                    go_round
                    case rel => exact ⟨k + 1, by omega, by go_num, by rw [HS0.out], by rw [HF0.out]⟩
                    case measure => simp [intOf]; omega
                · have et2 : ((z : Int) == 2 ^ k) = false := by rw [beq_eq_false_iff_ne, HPA.out]; omega
                  have HF0 : Hid (fsK W (j + 1) (k + 1) = fsK W (j + 1) k) := Lib.hid (by rw [HFS.out]; simp [hzp])
                  clear hzp HFS
                  cases bk with
                  | true =>
                    have et3 := HBT.out
                    go_wp2
                    go_round
                    case rel => exact ⟨k + 1, by omega, by go_num, by rw [HS0.out], by rw [HF0.out]⟩
                    case measure => simp [intOf]; omega
                  | false =>
                    have et3 := HBT.out
                    go_wp2
                    go_round
                    case rel => exact ⟨k + 1, by omega, by go_num, by rw [HS0.out], by rw [HF0.out]⟩
                    case measure => simp [intOf]; omega
            · obtain rfl : k = W.length := by omega
              rw [HFE.out, HFI.out]
              have htl := tops_lt W (j + 1)
              cases h3 : covB W (j + 1) with
              | true =>
                have HN := Lib.hid (HBN.out (.inr h3))
                clear h2 h3
                go_wp2
                go_roundw
                case rel => exact ⟨j + 1, by omega, by go_num, (by rw [HN.out]), hb3⟩
                case measure => simp [intOf]; omega
              | false =>
                have HN := Lib.hid (HBJ.out h2 h3)
                have E2 := or_nat bs (tops W (j + 1)) (by omega) (by omega)
                clear h2 h3
                generalize tops W (j + 1) = tp at *
                go_wp2
                go_roundw
                case rel => exact ⟨j + 1, by omega, by go_num, (by rw [HN.out]), hb3⟩
                case measure => simp [intOf]; omega
      · have hlt' : ¬ (j : Int) + 1 ≤ 2 ^ W.length - 1 := by have := HPN.out; omega
        have EJ := Lib.hid (show 2 ^ W.length - 1 = j by omega)
        have e1 : ((j + 1 : Nat) : Int) = (j : Int) + 1 := rfl
        go_wp2
        go_ret
        exact ⟨ret_int (by rw [R.out, EJ.out]), below_trans hbw hb⟩
end Go.Proofs.Ytboekpmaefcmdaa
