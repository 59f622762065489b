/- l08Best, the reference's BestOrder, FeedbackGames, walked. -/
import Derived.Test.YtkdfjkocfejfjaaBest
namespace Go.Proofs.Ytkdfjkocfejfjaa
open Go.RowKit

theorem own_cap {w : World} {lo hi : Nat} {t : TypeId} {A : Option Addr} {c : Nat} {zs : List Int} (h : Own w lo hi t A c (ints zs)) : zs.length ≤ c := by have := h.cap.1; rwa [ints_length] at this
theorem fb_next {wr w' wq : World} {g a b : Nat} {u v : Value} (h : Below wr.heap.size wr w' ∧ w'.cell? ⟨g, a, none⟩ = some u ∧ w'.cell? ⟨g, b, none⟩ = some v) (hq : Below w'.heap.size w' wq) :
    Below wr.heap.size wr wq ∧ wq.cell? ⟨g, a, none⟩ = some u ∧ wq.cell? ⟨g, b, none⟩ = some v := by
  obtain ⟨h1, h2, h3⟩ := h
  have l1 := World.block_lt_of_cell? _ _ h2
  exact ⟨below_trans h1 hq, (hq.cell (p := ⟨g, a, none⟩) l1).trans h2, (hq.cell (p := ⟨g, b, none⟩) l1).trans h3⟩
theorem bs_next {w1 w' wq : World} {g g2 a b g3 c : Nat} {v0 v1 x0 x1 y0 : Value} (h : Below w1.heap.size w1 w' ∧ w'.cell? ⟨g, 0, none⟩ = some v0 ∧ w'.cell? ⟨g, 1, none⟩ = some v1 ∧ w'.cell? ⟨g3, c, none⟩ = some y0 ∧ w'.cell? ⟨g2, a, none⟩ = some x0 ∧ w'.cell? ⟨g2, b, none⟩ = some x1) (hq : Below w'.heap.size w' wq) :
    Below w1.heap.size w1 wq ∧ wq.cell? ⟨g, 0, none⟩ = some v0 ∧ wq.cell? ⟨g, 1, none⟩ = some v1 ∧ wq.cell? ⟨g3, c, none⟩ = some y0 ∧ wq.cell? ⟨g2, a, none⟩ = some x0 ∧ wq.cell? ⟨g2, b, none⟩ = some x1 := by
  obtain ⟨h0, h1, h2, h5, h3, h4⟩ := h
  have l1 := World.block_lt_of_cell? _ _ h1
  have l3 := World.block_lt_of_cell? _ _ h3
  have l5 := World.block_lt_of_cell? _ _ h5
  exact ⟨below_trans h0 hq, (hq.cell (p := ⟨g, 0, none⟩) l1).trans h1, (hq.cell (p := ⟨g, 1, none⟩) l1).trans h2, (hq.cell (p := ⟨g3, c, none⟩) l5).trans h5, (hq.cell (p := ⟨g2, a, none⟩) l3).trans h3, (hq.cell (p := ⟨g2, b, none⟩) l3).trans h4⟩
set_option maxHeartbeats 1600000 in
set_option maxRecDepth 20000 in
theorem l08Best_any (A : Option Addr) (c : Nat) (W : List Nat) (w : World) (hT : IsT W) (h : Row w w.heap.size A (ints (casts W))) :
    Calls Try.prog 87 #[.agg #[.int .i64 (W.length : Int), .slice A W.length c]] w (NewInts w 3 (casts (boL W (2 ^ W.length - 1)))) := by
  have g1 := hT.h1
  have g8 := hT.h8
  obtain ⟨p1, p2⟩ := pow_bd W.length g1 g8
  have HPN := Lib.hid (pow_cast W.length)
  have HP8 := Lib.hid (pow_le8 W.length g8)
  go_enter Try.func87, Try.ntmps87
  go_wp2_with fail
  refine (l08Table_any A c W _ hT (h.rowAt (by go_grown) (Nat.le_refl _))).mono ?_
  rintro e w1 ⟨B, d, B', d', rfl, hR, hR', hb1⟩
  obtain ⟨k0, k1, hbw, hsz⟩ := box1 hb1
  have h := h.rowAt hbw (Nat.le_refl _)
  clear hR' hb1
  have d0 := (World.cell?_alloc_lt w1 (.cells #[] 3) ⟨w.heap.size, 0, none⟩ (by show w.heap.size < _; omega)).trans k0
  have d1 := (World.cell?_alloc_lt w1 (.cells #[] 3) ⟨w.heap.size, 1, none⟩ (by show w.heap.size < _; omega)).trans k1
  have hb12 : Below w1.heap.size w1 (w1.alloc (.cells #[] 3)) := by go_grown
  have HE0 := Lib.hid (Own.made w1 w1.heap.size 3 #[] (Nat.le_refl _) (by simp))
  go_wp2_with fail
  refine (l02All_any A c W.length _ g1 g8).mono ?_
  rintro e w2 ⟨rfl, hbA⟩
  have hb2 := below_trans hb12 hbA
  have HE1 := Lib.hid ((HE0.out.below hbA (by simp)).mono (Nat.le_refl _) (by have := hbA.size; simpa using this))
  clear d0 d1 hbA HE0 hb12
  go_wp2
  go_loopw [5, 6] (fun v st wr => ∃ (s : Nat) (L : List Nat) (C : Option Addr) (e : Nat), s < 2 ^ W.length ∧ st = .int .i64 (s : Int) ∧ v = .slice C L.length e ∧ Hid (L ++ boL W s = boL W (2 ^ W.length - 1)) ∧ Own wr w1.heap.size wr.heap.size 3 C e (ints (casts L)) ∧ Below w1.heap.size w1 wr) (fun _ st _ => (intOf st).toNat)
  case atStart => exact ⟨2 ^ W.length - 1, [], _, 0, by have := Nat.two_pow_pos W.length; omega, by congr 1; have := HPN.out; have := Nat.two_pow_pos W.length; omega, rfl, Lib.hid rfl, HE1.out, hb2⟩
  case round =>
    clear HE1 hb2
    obtain ⟨s, L, C, e, hs, rfl, rfl, HL, ho, hb⟩ := hrel
    have HO := Lib.hid ho
    clear ho
    obtain ⟨c0, c1⟩ := held_at k0 k1 hb
    have hs256 : s < 256 := by have := HP8.out; omega
    have hL8 := bo_len W hT L s HL.out
    by_cases hs0 : 0 < s
    · go_wp2_with fail
      refine (l02List_any (s : Int) _ (by omega) (by omega)).mono ?_
      rintro e wl ⟨M, dM, rfl, hoM, hbl⟩
      rw [Int.toNat_natCast] at *
      rw [casts_length]
      have hrM : Row wl wl.heap.size M (ints (casts (mem 8 s))) := hoM.row
      have hmk : (mem 8 s).length ≤ 8 := by rw [mem_length]; exact pc_le 8 s
      have HML := Lib.hid (fun j hj => mem_lt W.length s hs j hj)
      have HM := Lib.hid (fun a ha => mem_left s a hs256 ha)
      have HNX := Lib.hid (fun j hj => bo_next W L s j hs256 hj HL.out)
      have HNO := Lib.hid (bo_none W s hs256 hs0)
      have hbX := below_trans hb hbl
      have hW := h.rowAt hbX (Nat.le_refl _)
      have HRB := Lib.hid (hR.rowAt hbX (Nat.le_refl _))
      have HO3 := Lib.hid ((HO.out.below hbl (Nat.le_refl _)).mono (Nat.le_refl _) hbl.size)
      have HEB : Hid (∀ x, x < 256 → (ent W x).1 ≤ 64) := Lib.hid (fun x hx => by have h1 := (ent_bd W x hx).1; have h8 := pc_le 8 x; omega)
      clear hoM hbl HO
      go_wp2
      obtain ⟨wo, rfl⟩ : ∃ wo : World, wo = wr := ⟨_, rfl⟩
      go_loopw [5, 6, 23] (fun v st i wr => ∃ j : Nat, j ≤ (mem 8 s).length ∧ i = .int .i64 (j : Int) ∧ st = .int .i64 (s : Int) ∧ v = .slice C L.length e ∧ Hid (∀ i (hi : i < (mem 8 s).length), i < j → okA W s (mem 8 s)[i] = false) ∧ Below wl.heap.size wl wr) (fun _ _ i _ => (mem 8 s).length - (intOf i).toNat)
      case atStart => exact ⟨0, Nat.zero_le _, rfl, rfl, rfl, Lib.hid (fun i _ hi => absurd hi (Nat.not_lt_zero _)), Below.refl _ _⟩
      case round =>
        obtain ⟨j, hj, rfl, rfl, rfl, HN, hbi⟩ := hrel
        have hb14 := below_trans hbX hbi
        obtain ⟨c0, c1⟩ := held_at k0 k1 hb14
        by_cases hlj : j < (mem 8 s).length
        · obtain ⟨bM, oM, rfl, _, hcM⟩ := (hrM.rowAt hbi (Nat.le_refl _)).nat hlj
          obtain ⟨q8, q1, q2, q3⟩ := HM.out _ (List.getElem_mem hlj)
          have han := HML.out j hlj
          have HNJ := Lib.hid (HNX.out j hlj)
          have HMO := Lib.hid (fun a (ha : (mem 8 s)[j] = a) => bo_more HN.out hlj ha)
          generalize hma : (mem 8 s)[j] = a at *
          have HMA := Lib.hid hma
          clear hma
          have HMO2 := Lib.hid (HMO.out a rfl)
          clear HMO
          obtain ⟨r1, r2⟩ := pow_small a q8
          have hw1 : IntKind.i64.wrap (2 ^ a) = 2 ^ a := by rw [IntKind.wrap_i64]; omega
          have EL : (s : Int) - 2 ^ a = ((s - 2 ^ a : Nat) : Int) := by have := pow_cast a; omega
          obtain ⟨bA, oA, rfl, _, hcA⟩ := (hW.rowAt hbi (Nat.le_refl _)).nat han
          have hxA := hT.lt256' han
          have hcg : cst W a (s - 2 ^ a) = pc 8 (ofB 8 (fun i => (s - 2 ^ a).testBit i && !W[a].testBit i)) := by unfold cst; rw [getD_lt _ _ _ han]
          have HOA : Hid (okA W s a = decide ((ent W (s - 2 ^ a)).1 + pc 8 (ofB 8 (fun i => (s - 2 ^ a).testBit i && !W[a].testBit i)) = (ent W s).1)) := Lib.hid (by unfold okA; rw [hcg])
          have E1 := andNot_nat (s - 2 ^ a) W[a] (by omega) hxA
          have hz := ofB_lt 8 (fun i => (s - 2 ^ a).testBit i && !W[a].testBit i)
          clear hcg
          generalize ofB 8 (fun i => (s - 2 ^ a).testBit i && !W[a].testBit i) = z at *
          have hcA' : ∃ y, y = W[a] := ⟨_, rfl⟩
          obtain ⟨y, hy⟩ := hcA'
          rw [← hy] at hcA hxA E1
          clear hy
          have v1 := HEB.out (s - 2 ^ a) (by omega)
          have v2 := HEB.out s hs256
          have hrB := HRB.out.rowAt hbi (Nat.le_refl _)
          obtain ⟨gB, oB, rfl, _, x0⟩ := hrB.nat (k := s - 2 ^ a) (by rw [bestL_length]; omega)
          obtain ⟨gB', oB', e9, _, x1⟩ := hrB.nat (k := s) (by rw [bestL_length]; omega)
          simp only [Option.some.injEq, Addr.mk.injEq, and_true] at e9
          obtain ⟨rfl, rfl⟩ := e9
          rw [bestL_at, tbl_at _ _ _ (by omega)] at x0
          rw [bestL_at, tbl_at _ _ _ (by omega)] at x1
          clear hrB
          have hl9 : s - 2 ^ a < 2 ^ W.length := by omega
          generalize (ent W (s - 2 ^ a)).1 = ea at *
          generalize (ent W s).1 = es at *
          generalize s - 2 ^ a = left at *
          have hl8 : (left : Int) < ((2 ^ W.length : Nat) : Int) := by omega
          have hl7 : (left : Int) < (2 : Int) ^ W.length := by have := HPN.out; omega
          have hl5 : (s : Int) < ((2 ^ W.length : Nat) : Int) := by omega
          have hl4 : (s : Int) < (2 : Int) ^ W.length := by have := HPN.out; omega
          have hpz := pc_le 8 z
          have EW : IntKind.i64.wrap ((ea : Int) + (pc 8 z : Nat)) = (ea : Int) + (pc 8 z : Nat) := by rw [IntKind.wrap_i64]; omega
          have hv : Below wr.heap.size wr wr := Below.refl _ _
          go_wp2
          go_region_held3 (fun w' => Below wr.heap.size wr w' ∧ w'.cell? ⟨w.heap.size, 0, none⟩ = some (.int .i64 (W.length : Int)) ∧ w'.cell? ⟨w.heap.size, 1, none⟩ = some (.slice (some ⟨bA, oA, none⟩) W.length c) ∧ w'.cell? ⟨bA, oA + a, none⟩ = some (.int .i64 (y : Int)) ∧ w'.cell? ⟨gB, oB + left, none⟩ = some (.int .i64 (ea : Int)) ∧ w'.cell? ⟨gB, oB + s, none⟩ = some (.int .i64 (es : Int)))
            (first | exact ⟨hv, c0, c1, hcA, x0, x1⟩ | exact ⟨hv.drew, c0, c1, hcA, x0, x1⟩)
            ((go_at_call 55; refine (l02Bits_any (z : Int) _ (by omega) (by omega)).mono ?_; rw [Int.toNat_natCast]; rintro e wq ⟨rfl, rfl⟩))
          all_goals
            have hbv9 := below_trans hbi hv
            by_cases hok : ea + pc 8 z = es
            · have et : (((ea : Int) + (pc 8 z : Nat)) == (es : Int)) = true := by rw [beq_iff_eq]; omega
              have HOK : Hid (okA W s a = true) := Lib.hid (HOA.out.trans (decide_eq_true hok))
              have HNJ2 := Lib.hid (HNJ.out HOK.out HN.out)
              have HO5 := Lib.hid ((HO3.out.below hbv9 (Nat.le_refl _)).mono (Nat.le_refl _) hbv9.size)
              have hb15 := below_trans hbX hbv9
              have hz15 := hb15.size
              clear hok HMO2 hv c0 c1 x0 x1 EL
              go_wp2_with (at_builtin; refine wpList_push rfl (.tmp 49) (.tmp 51) rfl w1.heap.size wr.heap.size C e L.length (casts L) (a : Int) wr.heap.size rfl rfl ?c1 ?c2 ?c3 (by omega) ?c4 ?_)
              case c1 => rw [casts_length]
              case c2 => exact HO5.out.alloc (Nat.le_refl _) _
              case c3 => go_simp
              case c4 => simp; omega
              intro A2 c2 w4 ho4 hg4
              have HO4 := Lib.hid ho4
              have hb4 := below_only (hb15.alloc hz15 (.cells #[.int .i64 (a : Int)] 3)).drew hg4 (Nat.le_refl _) (by simp; omega)
              clear ho4 hg4
              go_wp2
              go_roundw
              case rel => exact ⟨left, L ++ [a], A2, c2, hl9, rfl, slice_len'' (by simp), HNJ2, by rw [casts_append]; exact HO4.out, hb4⟩
              case measure => simp [intOf]; omega
            · have et : (((ea : Int) + (pc 8 z : Nat)) == (es : Int)) = false := by rw [beq_eq_false_iff_ne]; omega
              have HOK : Hid (okA W s a = false) := Lib.hid (HOA.out.trans (decide_eq_false hok))
              have HN2 := Lib.hid (HMO2.out HOK.out)
              clear hok HNJ
              go_wp2
              go_roundw
              case rel => exact ⟨j + 1, by omega, by go_num, rfl, rfl, HN2, by first | exact hbv9 | exact hbv9.drew⟩
              case measure => simp [intOf]; omega
        · obtain rfl : j = (mem 8 s).length := by omega
          exact (HNO.out HN.out).elim
    · obtain rfl : s = 0 := by omega
      have HE : Hid (L = boL W (2 ^ W.length - 1)) := Lib.hid (by rw [← HL.out]; unfold boL; rw [boF_zero, List.append_nil])
      have hz1 := hbw.size
      have HOm := Lib.hid (HO.out.mono (lo' := w.heap.size) (by omega) (Nat.le_refl _))
      go_wp2
      go_ret
      rw [← HE.out]
      exact ⟨C, e, ret_slice (by rw [casts_length]), HOm.out, hbw.trans (hb.mono hz1)⟩
theorem sBestOrder_any (A : Option Addr) (c : Nat) (s : Int) (zs : List Int) (w : World) (h : Row w w.heap.size A (ints zs)) (hl : zs.length ≤ 1099511627776) :
    Calls Try.prog 45 #[.agg #[.int .i64 s, .slice A zs.length c]] w (NewInts w 3 (rBestOrder s zs)) := by
  cases ho : okB s zs with
  | false =>
    have N : Hid (rBestOrder s zs = []) := Lib.hid (by unfold rBestOrder; rw [ho]; rfl)
    have HO := Lib.hid ho
    clear ho
    go_enter Try.func45, Try.ntmps45
    go_wp2_with fail
    refine (sTourOk_any A c s zs _ (h.rowAt (by go_grown) (Nat.le_refl _)) hl).mono ?_
    rw [HO.out]
    rintro e w1 ⟨rfl, hb⟩
    obtain ⟨k0, k1, hbw, hsz⟩ := box1 hb
    clear hb
    go_wp2
    go_ret
    exact newInts_none _ N.out hbw
  | true =>
    obtain ⟨W, rfl, rfl, hT⟩ := ok_tour ho
    have R : Hid (rBestOrder (W.length : Int) (casts W) = (casts (boL W (2 ^ W.length - 1)))) := Lib.hid (by unfold rBestOrder; rw [ho, toW_casts]; rfl)
    have g1 := hT.h1
    have g8 := hT.h8
    rw [casts_length]
    rw [R.out]
    clear R
    clear ho hl
    go_enter Try.func45, Try.ntmps45
    go_wp2_with fail
    refine (sTourOkW A c W _ hT (h.rowAt (by go_grown) (Nat.le_refl _))).mono ?_
    rintro e w1 ⟨rfl, hb⟩
    obtain ⟨k0, k1, hbw, hsz⟩ := box1 hb
    have h := h.rowAt hbw (Nat.le_refl _)
    clear hb
    go_wp2_with fail
    refine (l08Best_any A c W _ hT h).mono ?_
    rintro e w2 ⟨B, d, rfl, hoB, hb2⟩
    have hz := hbw.size
    go_wp2
    go_ret
    exact ⟨B, d, rfl, hoB.mono (by omega) (Nat.le_refl _), below_trans hbw hb2⟩
def rFeedbackGames (s : Int) (zs : List Int) : List (List Int) := if okB s zs then backRows (toW zs) (casts (boL (toW zs) (2 ^ (toW zs).length - 1))) else []
theorem fb_eq (s : Int) (zs : List Int) : rBackGames s zs (rBestOrder s zs) = rFeedbackGames s zs := by
  unfold rBackGames rFeedbackGames rBestOrder rOrderOk
  cases ho : okB s zs with
  | false => rfl
  | true =>
    obtain ⟨W, rfl, rfl, hT⟩ := ok_tour ho
    obtain ⟨o1, o2⟩ := orderB_of W hT
    simp only [if_pos, toW_casts, casts_length, o1, o2, decide_true, Bool.and_self]
    first | done | rfl
theorem rFeedbackGames_len (s : Int) (zs : List Int) : (rFeedbackGames s zs).length ≤ 1000 ∧ (∀ r ∈ rFeedbackGames s zs, r.length ≤ 1099511627776) ∧ total (rFeedbackGames s zs) ≤ 1000000 := by
  rw [← fb_eq]
  exact rBackGames_len _ _ _
theorem iFeedbackGames_any (A : Option Addr) (c : Nat) (s : Int) (zs : List Int) (w : World) (h : Row w w.heap.size A (ints zs)) (hl : zs.length ≤ 1099511627776) :
    Calls Try.prog 50 #[.agg #[.int .i64 s, .slice A zs.length c]] w (NewTable w (rFeedbackGames s zs)) := by
  have HC := Lib.hid (fun W' hr => iBestOrder_any A c s zs W' hr hl)
  have hbl := rBestOrder_len s zs
  have HB := Lib.hid (fun (B : Option Addr) (d : Nat) W' hr1 hr2 hc => iBackGames_any A c s zs B d (rBestOrder s zs) W' hr1 hl hr2 (by omega) hc)
  rw [← fb_eq]
  go_enter Try.func50, Try.ntmps50
  go_wp2
  obtain ⟨w1, hw1⟩ : ∃ w1, w1 = w.alloc (.cells #[.int .i64 s, .slice A zs.length c] 27) := ⟨_, rfl⟩
  rw [← hw1]
  have c0 : w1.cell? ⟨w.heap.size, 0, none⟩ = some (.int .i64 s) := by rw [hw1]; go_simp
  have c1 : w1.cell? ⟨w.heap.size, 1, none⟩ = some (.slice A zs.length c) := by rw [hw1]; go_simp
  have hbw : Below w.heap.size w w1 := by rw [hw1]; go_grown
  have h := h.rowAt hbw (Nat.le_refl _)
  have hv : Below w1.heap.size w1 w1 := Below.refl _ _
  clear hw1
  go_region_held3 (fun w' => Below w1.heap.size w1 w' ∧ w'.cell? ⟨w.heap.size, 0, none⟩ = some (.int .i64 s) ∧ w'.cell? ⟨w.heap.size, 1, none⟩ = some (.slice A zs.length c))
    (first | exact ⟨hv, c0, c1⟩ | exact ⟨hv.drew, c0, c1⟩)
    (first
      | (go_at_call 46; (with_reducible refine (HC.out _ (h.rowAt (by first | exact hv | exact hv.drew) (Nat.le_refl _))).mono ?_); rintro e wv ⟨B1, d1, rfl, r1, hbv⟩; have rc1 := own_cap r1; have hz1 := hv.size; obtain ⟨hv, c0, c1⟩ : Below w1.heap.size w1 wv ∧ wv.cell? ⟨w.heap.size, 0, none⟩ = some (.int .i64 s) ∧ wv.cell? ⟨w.heap.size, 1, none⟩ = some (.slice A zs.length c) := (by first | exact fb_next ⟨hv, c0, c1⟩ hbv | exact fb_next ⟨hv.drew, c0, c1⟩ hbv))
      | (go_at_call 30; (with_reducible refine (HB.out B1 d1 _ (h.rowAt (by first | exact hv | exact hv.drew) (Nat.le_refl _)) (r1.rowAt (by first | exact Below.refl _ _ | exact (Below.refl _ _).drew) (Nat.le_refl _)) rc1).mono ?_); rintro e wz ⟨B2, d2, rfl, r2, hbz⟩; have hz2 := hv.size; obtain ⟨hv, c0, c1⟩ : Below w1.heap.size w1 wz ∧ wz.cell? ⟨w.heap.size, 0, none⟩ = some (.int .i64 s) ∧ wz.cell? ⟨w.heap.size, 1, none⟩ = some (.slice A zs.length c) := (by first | exact fb_next ⟨hv, c0, c1⟩ hbz | exact fb_next ⟨hv.drew, c0, c1⟩ hbz)))
  have hz := hbw.size
  go_wp2
  go_ret
  exact ⟨B2, d2, rfl, r2.mono (by first | omega | (simp; omega)) (Nat.le_refl _), below_trans hbw hv⟩
theorem sFeedbackGames_any (A : Option Addr) (c : Nat) (s : Int) (zs : List Int) (w : World) (h : Row w w.heap.size A (ints zs)) (hl : zs.length ≤ 1099511627776) :
    Calls Try.prog 49 #[.agg #[.int .i64 s, .slice A zs.length c]] w (NewTable w (rFeedbackGames s zs)) := by
  cases ho : okB s zs with
  | false =>
    have N : Hid (rFeedbackGames s zs = []) := Lib.hid (by unfold rFeedbackGames; rw [ho]; rfl)
    have HO := Lib.hid ho
    clear ho
    go_enter Try.func49, Try.ntmps49
    go_wp2_with fail
    refine (sTourOk_any A c s zs _ (h.rowAt (by go_grown) (Nat.le_refl _)) hl).mono ?_
    rw [HO.out]
    rintro e w1 ⟨rfl, hb⟩
    obtain ⟨k0, k1, hbw, hsz⟩ := box1 hb
    clear hb
    go_wp2
    go_ret
    exact newTable_none N.out hbw
  | true =>
    obtain ⟨W, rfl, rfl, hT⟩ := ok_tour ho
    have R : Hid (rFeedbackGames (W.length : Int) (casts W) = (backRows W (casts (boL W (2 ^ W.length - 1))))) := Lib.hid (by unfold rFeedbackGames; rw [ho, toW_casts]; rfl)
    have g1 := hT.h1
    have g8 := hT.h8
    rw [casts_length]
    rw [R.out]
    clear R
    clear ho hl
    go_enter Try.func49, Try.ntmps49
    go_wp2_with fail
    refine (sTourOkW A c W _ hT (h.rowAt (by go_grown) (Nat.le_refl _))).mono ?_
    rintro e w1 ⟨rfl, hb⟩
    obtain ⟨k0, k1, hbw, hsz⟩ := box1 hb
    have h := h.rowAt hbw (Nat.le_refl _)
    clear hb
    obtain ⟨o1, o2⟩ := orderB_of W hT
    have o3 : (casts (boL W (2 ^ W.length - 1))).length = W.length := by rw [casts_length]; exact o1
    have HC := Lib.hid (fun W' hr => l08Best_any A c W W' hT hr)
    have HB := Lib.hid (fun (B : Option Addr) (d : Nat) W' hr1 hr2 => l08Back_any A c W B d (casts (boL W (2 ^ W.length - 1))) W' hT hr1 hr2 o3 o2)
    have c0 := k0
    have c1 := k1
    have hv : Below w1.heap.size w1 w1 := Below.refl _ _
    clear o1 o2 o3 k0 k1
    go_wp2
    go_region_held3 (fun w' => Below w1.heap.size w1 w' ∧ w'.cell? ⟨w.heap.size, 0, none⟩ = some (.int .i64 (W.length : Int)) ∧ w'.cell? ⟨w.heap.size, 1, none⟩ = some (.slice A W.length c))
      (first | exact ⟨hv, c0, c1⟩ | exact ⟨hv.drew, c0, c1⟩)
      (first
        | (go_at_call 87; (with_reducible refine (HC.out _ (h.rowAt (by first | exact hv | exact hv.drew) (Nat.le_refl _))).mono ?_); rintro e wv ⟨B1, d1, rfl, r1, hbv⟩; have hz1 := hv.size; obtain ⟨hv, c0, c1⟩ : Below w1.heap.size w1 wv ∧ wv.cell? ⟨w.heap.size, 0, none⟩ = some (.int .i64 (W.length : Int)) ∧ wv.cell? ⟨w.heap.size, 1, none⟩ = some (.slice A W.length c) := (by first | exact fb_next ⟨hv, c0, c1⟩ hbv | exact fb_next ⟨hv.drew, c0, c1⟩ hbv))
        | (go_at_call 69; (with_reducible refine (HB.out B1 d1 _ (h.rowAt (by first | exact hv | exact hv.drew) (Nat.le_refl _)) (r1.rowAt (by first | exact Below.refl _ _ | exact (Below.refl _ _).drew) (Nat.le_refl _))).mono ?_); rintro e wz ⟨B2, d2, rfl, r2, hbz⟩; have hz2 := hv.size; obtain ⟨hv, c0, c1⟩ : Below w1.heap.size w1 wz ∧ wz.cell? ⟨w.heap.size, 0, none⟩ = some (.int .i64 (W.length : Int)) ∧ wz.cell? ⟨w.heap.size, 1, none⟩ = some (.slice A W.length c) := (by first | exact fb_next ⟨hv, c0, c1⟩ hbz | exact fb_next ⟨hv.drew, c0, c1⟩ hbz)))
    have hz := hbw.size
    go_wp2
    go_ret
    exact ⟨B2, d2, rfl, r2.mono (by first | omega | (simp; omega)) (Nat.le_refl _), below_trans hbw hv⟩
end Go.Proofs.Ytkdfjkocfejfjaa
