/- WeakestGames, walked. -/
import Derived.Test.YtboekpmaefcmdaaStrong
import Derived.Test.YtboekpmaefcmdaaBack
import Derived.Test.YtboekpmaefcmdaaFlip
namespace Go.Proofs.Ytboekpmaefcmdaa
open Go.RowKit

def wkF (W : List Nat) (a b : Nat) : Bool := bt W a b && !strB (flipW W a b)
def rWeakestGames (s : Int) (zs : List Int) : List (List Int) := if rIsStrong s zs then prRows (toW zs).length (wkF (toW zs)) else []
theorem str_facts {s : Int} {zs : List Int} (h : rIsStrong s zs = true) : ∃ W : List Nat, zs = casts W ∧ s = (W.length : Int) ∧ IsT W := by
  unfold rIsStrong at h
  cases ho : okB s zs with
  | false => rw [ho] at h; cases h
  | true => exact ok_tour ho
theorem rWeakestGames_len (s : Int) (zs : List Int) : (rWeakestGames s zs).length ≤ 1000 ∧ (∀ r ∈ rWeakestGames s zs, r.length ≤ 1099511627776) ∧ total (rWeakestGames s zs) ≤ 1000000 := by
  unfold rWeakestGames
  cases ho : rIsStrong s zs with
  | false => simp [total]
  | true =>
    obtain ⟨W, rfl, rfl, hT⟩ := str_facts ho
    rw [if_pos rfl, toW_casts]
    have h1 := prRows_le W.length (wkF W) hT.h8
    have h2 := prRows_len W.length (wkF W)
    have h3 := total_le3 (prRows W.length (wkF W)) 2 h2
    exact ⟨by omega, fun r hr => by have := h2 r hr; omega, by omega⟩
theorem bt_flip_ne {W : List Nat} (hT : IsT W) {a b : Nat} (h : bt W a b = true) : a ≠ b := fun e => by subst e; rw [hT.self] at h; cases h
set_option maxHeartbeats 1600000 in
theorem iWeakestGames_any (A : Option Addr) (c : Nat) (s : Int) (zs : List Int) (w : World) (h : Row w w.heap.size A (ints zs)) (hl : zs.length ≤ 1099511627776) :
    Calls Try.prog 37 #[.agg #[.int .i64 s, .slice A zs.length c]] w (NewTable w (rWeakestGames s zs)) := by
  cases ho : rIsStrong s zs with
  | false =>
    have N := Lib.hid (show rWeakestGames s zs = [] by unfold rWeakestGames; rw [ho]; rfl)
    have HC := Lib.hid (fun W' hr => iIsStrong_any A c s zs W' hr hl)
    have HO := Lib.hid ho
    clear ho
    go_enter Try.func37, Try.ntmps37
    go_wp2_with fail
    refine (HC.out _ (h.rowAt (by go_grown) (Nat.le_refl _))).mono ?_
    rw [HO.out]
    rintro e w1 ⟨rfl, hb⟩
    obtain ⟨k0, k1, hbw, hsz⟩ := box1 hb
    clear hb
    go_wp2
    go_ret
    exact newTable_none N.out hbw
  | true =>
    obtain ⟨W, rfl, rfl, hT⟩ := str_facts ho
    have N1 : rWeakestGames (W.length : Int) (casts W) = prRows W.length (wkF W) := by unfold rWeakestGames; rw [ho, toW_casts]; rfl
    have g1 := hT.h1
    have g8 := hT.h8
    rw [N1]
    have HC := Lib.hid (fun W' hr => iIsStrong_any A c (W.length : Int) (casts W) W' hr hl)
    have HO := Lib.hid ho
    clear ho N1 hl
    rw [casts_length] at HC
    rw [casts_length]
    go_enter Try.func37, Try.ntmps37
    go_wp2_with fail
    refine (HC.out _ (h.rowAt (by go_grown) (Nat.le_refl _))).mono ?_
    rw [HO.out]
    rintro e w1 ⟨rfl, hb⟩
    obtain ⟨k0, k1, hbw, hsz⟩ := box1 hb
    have h := h.rowAt hbw (Nat.le_refl _)
    clear hb
    have HST := Lib.hid (OwnT.nil w1 w1.heap.size w1.heap.size)
    have hb12 : Below w1.heap.size w1 w1 := Below.refl _ _
    go_wp2
    go_loopw [3, 11] (fun v i wr => ∃ (a : Nat) (B : Option Addr) (d n : Nat), a ≤ W.length ∧ i = .int .i64 a ∧ v = .slice B n d ∧ Hid (n = (stP W.length (wkF W) a 0).length) ∧ n ≤ 100 ∧ OwnT wr w1.heap.size wr.heap.size B d (stP W.length (wkF W) a 0) ∧ Below w1.heap.size w1 wr) (fun _ i _ => W.length - (intOf i).toNat)
    case atStart => exact ⟨0, none, 0, 0, Nat.zero_le _, rfl, rfl, Lib.hid rfl, by omega, HST.out, hb12⟩
    case round =>
      clear HST hb12
      obtain ⟨a, B, d, n, ha, rfl, rfl, HN, hn, ho, hb⟩ := hrel
      have HO := Lib.hid ho
      clear ho
      obtain ⟨c0, c1⟩ := held_at k0 k1 hb
      by_cases hlt : a < W.length
      · go_wp2
        go_loopw [3, 16] (fun v i wr => ∃ (b : Nat) (B : Option Addr) (d n : Nat), b ≤ W.length ∧ i = .int .i64 b ∧ v = .slice B n d ∧ Hid (n = (stP W.length (wkF W) a b).length) ∧ n ≤ 100 ∧ OwnT wr w1.heap.size wr.heap.size B d (stP W.length (wkF W) a b) ∧ Below w1.heap.size w1 wr) (fun _ i _ => W.length - (intOf i).toNat)
        case atStart => exact ⟨0, B, d, n, Nat.zero_le _, rfl, rfl, HN, hn, HO.out, hb⟩
        case round =>
          clear hb c0 c1 HO HN hn
          obtain ⟨b, B, d, n, hbl, rfl, rfl, HN, hn, ho, hb⟩ := hrel
          have HO := Lib.hid ho
          clear ho
          obtain ⟨c0, c1⟩ := held_at k0 k1 hb
          by_cases hltb : b < W.length
          · have hr := h.rowAt hb (Nat.le_refl _)
            have hle := stP_le W.length (wkF W) g8 a (b + 1) (by omega) (by omega)
            have HC := Lib.hid (fun v hv => beatsW_any A c W a b v hv wr hT hr hlt hltb)
            clear hr
            cases n1 : bt W a b with
            | false =>
              have HS := Lib.hid (stP_miss W.length (wkF W) a b (by unfold wkF; rw [n1]; rfl))
              have M1 := Lib.hid n1
              clear n1 hle
              go_wp2_with fail
              refine (HC.out false M1.out).mono ?_
              rintro e w2 ⟨rfl, hq⟩
              go_wp2
              go_roundw
              case rel => exact ⟨b + 1, B, d, n, by omega, by go_num, rfl, by rw [HS.out]; exact HN, hn, by rw [HS.out]; exact (HO.out.below hq (Nat.le_refl _)).mono (Nat.le_refl _) hq.size, below_trans hb hq⟩
              case measure => simp [intOf]; omega
            | true =>
              have HU : Hid (wkF W a b = !strB (flipW W a b)) := Lib.hid (by unfold wkF; rw [n1]; rfl)
              have HF := Lib.hid (flipW_ok W hT a b hlt hltb (bt_flip_ne hT n1))
              have HFL := Lib.hid (flipW_length W a b)
              have M1 := Lib.hid n1
              clear n1
              go_wp2_with fail
              refine (HC.out true M1.out).mono ?_
              rintro e w2 ⟨rfl, hq⟩
              have hb2 := below_trans hb hq
              obtain ⟨c0, c1⟩ := held_at k0 k1 hb2
              go_wp2_with fail
              refine (flipped_any A c W a b _ hT (h.rowAt hb2 (Nat.le_refl _)) hlt hltb).mono ?_
              rintro e w3 ⟨B3, d3, rfl, h3, hq3⟩
              rw [casts_length, HFL.out]
              have hb3 := below_trans hb2 hq3
              have hqq := below_trans hq hq3
              have HSt := Lib.hid (isStrong_any B3 d3 (flipW W a b) w3 HF.out h3.row)
              rw [HFL.out] at HSt
              clear h3
              cases n2 : strB (flipW W a b) with
              | true =>
                rw [n2] at HSt
                have HS := Lib.hid (stP_miss W.length (wkF W) a b (by rw [HU.out, n2]; rfl))
                clear n2 hle
                go_wp2_with fail
                refine HSt.out.mono ?_
                rintro e w4 ⟨rfl, hq4⟩
                have hq5 := below_trans hqq hq4
                go_wp2
                go_roundw
                case rel => exact ⟨b + 1, B, d, n, by omega, by go_num, rfl, by rw [HS.out]; exact HN, hn, by rw [HS.out]; exact (HO.out.below hq5 (Nat.le_refl _)).mono (Nat.le_refl _) hq5.size, below_trans hb hq5⟩
                case measure => simp [intOf]; omega
              | false =>
                rw [n2] at HSt
                have HS := Lib.hid (stP_hit W.length (wkF W) a b (by rw [HU.out, n2]; rfl))
                have hle2 : n + 1 ≤ 100 := by rw [HS.out, List.length_append, ← HN.out] at hle; exact hle
                clear n2 hle
                go_wp2_with fail
                refine HSt.out.mono ?_
                rintro e w4 ⟨rfl, hq4⟩
                have hq5 := below_trans hqq hq4
                have hb5 := below_trans hb hq5
                have HO2 := Lib.hid (HO.out.below hq5 (Nat.le_refl _))
                have hz2 := hq5.size
                have hz1 := hb.size
                go_wp2_with (at_builtin; refine wpList_pushT rfl (.tmp 31) (.tmp 35) rfl w1.heap.size wr.heap.size (w4.heap.size + 1) B d n (stP W.length (wkF W) a b) (pair2 a b) w4.heap.size 2 (w4.heap.size + 1) 2 rfl rfl HN.out ?c5 ?c6 rfl ?c7 ?c8 ?c9 ?c0 (by omega) ?c1 ?_)
                case c5 => exact (HO2.out.alloc (by omega) _).alloc (by simp; omega) _
                case c6 =>
                  have hm := Own.made w4 w1.heap.size 3 #[.int .i64 (a : Int), .int .i64 (b : Int)] (by omega) (by simp [maxLen])
                  exact (hm.alloc (by simp) _)
                case c7 => omega
                case c8 => simp
                case c9 => simp; omega
                case c0 => go_simp
                case c1 => simp; omega
                intro A2 c2 w6 ho4 hg4
                have HO4 := Lib.hid ho4
                clear ho4
                go_wp2
                go_roundw
                case rel => exact ⟨b + 1, A2, c2, n + 1, by omega, by go_num, rfl, Lib.hid (by rw [HS.out, List.length_append, HN.out]; rfl), hle2, by rw [HS.out]; exact HO4.out, (((hb5.alloc (by omega) _).alloc (by simp; omega) _).trans (hg4.below (Nat.le_refl _) (by simp; omega)))⟩
                case measure => simp [intOf]; omega
          · obtain rfl : b = W.length := by omega
            have HS := Lib.hid (stP_b W.length (wkF W) a)
            go_wp2
            go_roundw
            case rel => exact ⟨a + 1, B, d, n, by omega, by go_num, rfl, by rw [← HS.out]; exact HN, hn, by rw [← HS.out]; exact HO.out, hb⟩
            case measure => simp [intOf]; omega
      · obtain rfl : a = W.length := by omega
        have HS := Lib.hid (stP_end W.length (wkF W))
        go_wp2
        go_ret
        exact ⟨B, d, ret_slice (by rw [← HS.out]; exact HN.out), by rw [← HS.out]; exact HO.out.mono hbw.size (Nat.le_refl _), below_trans hbw hb⟩
set_option maxHeartbeats 1600000 in
theorem sWeakestGames_any (A : Option Addr) (c : Nat) (s : Int) (zs : List Int) (w : World) (h : Row w w.heap.size A (ints zs)) (hl : zs.length ≤ 1099511627776) :
    Calls Try.prog 36 #[.agg #[.int .i64 s, .slice A zs.length c]] w (NewTable w (rWeakestGames s zs)) := by
  cases ho : rIsStrong s zs with
  | false =>
    have N := Lib.hid (show rWeakestGames s zs = [] by unfold rWeakestGames; rw [ho]; rfl)
    have HC := Lib.hid (fun W' hr => sIsStrong_any A c s zs W' hr hl)
    have HO := Lib.hid ho
    clear ho
    go_enter Try.func36, Try.ntmps36
    go_wp2_with fail
    refine (HC.out _ (h.rowAt (by go_grown) (Nat.le_refl _))).mono ?_
    rw [HO.out]
    rintro e w1 ⟨rfl, hb⟩
    obtain ⟨k0, k1, hbw, hsz⟩ := box1 hb
    clear hb
    go_wp2
    go_ret
    exact newTable_none N.out hbw
  | true =>
    obtain ⟨W, rfl, rfl, hT⟩ := str_facts ho
    have N1 : rWeakestGames (W.length : Int) (casts W) = prRows W.length (wkF W) := by unfold rWeakestGames; rw [ho, toW_casts]; rfl
    have g1 := hT.h1
    have g8 := hT.h8
    rw [N1]
    have HC := Lib.hid (fun W' hr => sIsStrong_any A c (W.length : Int) (casts W) W' hr hl)
    have HO := Lib.hid ho
    clear ho N1 hl
    rw [casts_length] at HC
    rw [casts_length]
    go_enter Try.func36, Try.ntmps36
    go_wp2_with fail
    refine (HC.out _ (h.rowAt (by go_grown) (Nat.le_refl _))).mono ?_
    rw [HO.out]
    rintro e w1 ⟨rfl, hb⟩
    obtain ⟨k0, k1, hbw, hsz⟩ := box1 hb
    have h := h.rowAt hbw (Nat.le_refl _)
    clear hb
    have d0 := (World.cell?_alloc_lt w1 (.cells #[] 22) ⟨w.heap.size, 0, none⟩ (by show w.heap.size < _; omega)).trans k0
    have d1 := (World.cell?_alloc_lt w1 (.cells #[] 22) ⟨w.heap.size, 1, none⟩ (by show w.heap.size < _; omega)).trans k1
    go_wp2_with fail
    clear d0 d1
    obtain ⟨w2, hw2⟩ : ∃ w2, w2 = w1.alloc (.cells #[] 22) := ⟨_, rfl⟩
    rw [← hw2]
    have hb12 : Below w1.heap.size w1 w2 := by rw [hw2]; go_grown
    have hst : OwnT w2 w1.heap.size w2.heap.size (some ⟨w1.heap.size, 0, none⟩) 0 (stP W.length (wkF W) 0 0) := by
      refine OwnT.empty ?_
      have hm := Own.made w1 w1.heap.size 22 #[] (Nat.le_refl _) (by simp)
      rw [hw2]
      exact hm.mono (Nat.le_refl _) (by simp)
    have HST := Lib.hid hst
    clear hst hw2
    go_loopw [3, 13] (fun v i wr => ∃ (a : Nat) (B : Option Addr) (d n : Nat), a ≤ W.length ∧ i = .int .i64 a ∧ v = .slice B n d ∧ Hid (n = (stP W.length (wkF W) a 0).length) ∧ n ≤ 100 ∧ OwnT wr w1.heap.size wr.heap.size B d (stP W.length (wkF W) a 0) ∧ Below w1.heap.size w1 wr) (fun _ i _ => W.length - (intOf i).toNat)
    case atStart => exact ⟨0, some ⟨w1.heap.size, 0, none⟩, 0, 0, Nat.zero_le _, rfl, rfl, Lib.hid rfl, by omega, HST.out, hb12⟩
    case round =>
      clear HST hb12
      obtain ⟨a, B, d, n, ha, rfl, rfl, HN, hn, ho, hb⟩ := hrel
      have HO := Lib.hid ho
      clear ho
      obtain ⟨c0, c1⟩ := held_at k0 k1 hb
      by_cases hlt : a < W.length
      · go_wp2
        go_loopw [3, 19] (fun v i wr => ∃ (b : Nat) (B : Option Addr) (d n : Nat), b ≤ W.length ∧ i = .int .i64 b ∧ v = .slice B n d ∧ Hid (n = (stP W.length (wkF W) a b).length) ∧ n ≤ 100 ∧ OwnT wr w1.heap.size wr.heap.size B d (stP W.length (wkF W) a b) ∧ Below w1.heap.size w1 wr) (fun _ i _ => W.length - (intOf i).toNat)
        case atStart => exact ⟨0, B, d, n, Nat.zero_le _, rfl, rfl, HN, hn, HO.out, hb⟩
        case round =>
          clear hb c0 c1 HO HN hn
          obtain ⟨b, B, d, n, hbl, rfl, rfl, HN, hn, ho, hb⟩ := hrel
          have HO := Lib.hid ho
          clear ho
          obtain ⟨c0, c1⟩ := held_at k0 k1 hb
          by_cases hltb : b < W.length
          · have hr := h.rowAt hb (Nat.le_refl _)
            have hle := stP_le W.length (wkF W) g8 a (b + 1) (by omega) (by omega)
            have HC := Lib.hid (fun v hv => l02BeatsW_any A c W a b v hv wr hT hr hlt hltb)
            clear hr
            cases n1 : bt W a b with
            | false =>
              have HS := Lib.hid (stP_miss W.length (wkF W) a b (by unfold wkF; rw [n1]; rfl))
              have M1 := Lib.hid n1
              clear n1 hle
              go_wp2_with fail
              refine (HC.out false M1.out).mono ?_
              rintro e w2 ⟨rfl, hq⟩
              go_wp2
              go_roundw
              case rel => exact ⟨b + 1, B, d, n, by omega, by go_num, rfl, by rw [HS.out]; exact HN, hn, by rw [HS.out]; exact (HO.out.below hq (Nat.le_refl _)).mono (Nat.le_refl _) hq.size, below_trans hb hq⟩
              case measure => simp [intOf]; omega
            | true =>
              have HU : Hid (wkF W a b = !strB (flipW W a b)) := Lib.hid (by unfold wkF; rw [n1]; rfl)
              have HF := Lib.hid (flipW_ok W hT a b hlt hltb (bt_flip_ne hT n1))
              have HFL := Lib.hid (flipW_length W a b)
              have M1 := Lib.hid n1
              clear n1
              go_wp2_with fail
              refine (HC.out true M1.out).mono ?_
              rintro e w2 ⟨rfl, hq⟩
              have hb2 := below_trans hb hq
              obtain ⟨c0, c1⟩ := held_at k0 k1 hb2
              go_wp2_with fail
              refine (l02Flip_any A c W a b _ hT (h.rowAt hb2 (Nat.le_refl _)) hlt hltb).mono ?_
              rintro e w3 ⟨B3, d3, rfl, h3, hq3⟩
              rw [casts_length, HFL.out]
              have hb3 := below_trans hb2 hq3
              have hqq := below_trans hq hq3
              have HSt := Lib.hid (l05Strong_any B3 d3 (flipW W a b) w3 HF.out h3.row)
              rw [HFL.out] at HSt
              clear h3
              cases n2 : strB (flipW W a b) with
              | true =>
                rw [n2] at HSt
                have HS := Lib.hid (stP_miss W.length (wkF W) a b (by rw [HU.out, n2]; rfl))
                clear n2 hle
                go_wp2_with fail
                refine HSt.out.mono ?_
                rintro e w4 ⟨rfl, hq4⟩
                have hq5 := below_trans hqq hq4
                go_wp2
                go_roundw
                case rel => exact ⟨b + 1, B, d, n, by omega, by go_num, rfl, by rw [HS.out]; exact HN, hn, by rw [HS.out]; exact (HO.out.below hq5 (Nat.le_refl _)).mono (Nat.le_refl _) hq5.size, below_trans hb hq5⟩
                case measure => simp [intOf]; omega
              | false =>
                rw [n2] at HSt
                have HS := Lib.hid (stP_hit W.length (wkF W) a b (by rw [HU.out, n2]; rfl))
                have hle2 : n + 1 ≤ 100 := by rw [HS.out, List.length_append, ← HN.out] at hle; exact hle
                clear n2 hle
                go_wp2_with fail
                refine HSt.out.mono ?_
                rintro e w4 ⟨rfl, hq4⟩
                have hq5 := below_trans hqq hq4
                have hb5 := below_trans hb hq5
                have HO2 := Lib.hid (HO.out.below hq5 (Nat.le_refl _))
                have hz2 := hq5.size
                have hz1 := hb.size
                go_wp2_with (at_builtin; refine wpList_pushT rfl (.tmp 34) (.tmp 38) rfl w1.heap.size wr.heap.size (w4.heap.size + 1) B d n (stP W.length (wkF W) a b) (pair2 a b) w4.heap.size 2 (w4.heap.size + 1) 2 rfl rfl HN.out ?c5 ?c6 rfl ?c7 ?c8 ?c9 ?c0 (by omega) ?c1 ?_)
                case c5 => exact (HO2.out.alloc (by omega) _).alloc (by simp; omega) _
                case c6 =>
                  have hm := Own.made w4 w1.heap.size 3 #[.int .i64 (a : Int), .int .i64 (b : Int)] (by omega) (by simp [maxLen])
                  exact (hm.alloc (by simp) _)
                case c7 => omega
                case c8 => simp
                case c9 => simp; omega
                case c0 => go_simp
                case c1 => simp; omega
                intro A2 c2 w6 ho4 hg4
                have HO4 := Lib.hid ho4
                clear ho4
                go_wp2
                go_roundw
                case rel => exact ⟨b + 1, A2, c2, n + 1, by omega, by go_num, rfl, Lib.hid (by rw [HS.out, List.length_append, HN.out]; rfl), hle2, by rw [HS.out]; exact HO4.out, (((hb5.alloc (by omega) _).alloc (by simp; omega) _).trans (hg4.below (Nat.le_refl _) (by simp; omega)))⟩
                case measure => simp [intOf]; omega
          · obtain rfl : b = W.length := by omega
            have HS := Lib.hid (stP_b W.length (wkF W) a)
            go_wp2
            go_roundw
            case rel => exact ⟨a + 1, B, d, n, by omega, by go_num, rfl, by rw [← HS.out]; exact HN, hn, by rw [← HS.out]; exact HO.out, hb⟩
            case measure => simp [intOf]; omega
      · obtain rfl : a = W.length := by omega
        have HS := Lib.hid (stP_end W.length (wkF W))
        go_wp2
        go_ret
        exact ⟨B, d, ret_slice (by rw [← HS.out]; exact HN.out), by rw [← HS.out]; exact HO.out.mono hbw.size (Nat.le_refl _), below_trans hbw hb⟩
end Go.Proofs.Ytboekpmaefcmdaa
