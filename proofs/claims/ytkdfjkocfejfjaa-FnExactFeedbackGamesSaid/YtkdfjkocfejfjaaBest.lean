/- BestOrder, l08Best, FeedbackGames, walked. -/
import Derived.Test.YtkdfjkocfejfjaaBestL
import Derived.Test.YtkdfjkocfejfjaaArr
import Derived.Test.YtkdfjkocfejfjaaBackG
namespace Go.Proofs.Ytkdfjkocfejfjaa
open Go.RowKit

def rBestOrder (s : Int) (zs : List Int) : List Int := if okB s zs then casts (boL (toW zs) (2 ^ (toW zs).length - 1)) else []
theorem rBestOrder_len (s : Int) (zs : List Int) : (rBestOrder s zs).length ≤ 1048576 := by
  unfold rBestOrder
  cases ho : okB s zs
  · simp
  · obtain ⟨W, rfl, rfl, hT⟩ := ok_tour ho
    have := hT.h8
    rw [if_pos rfl, casts_length, toW_casts, (orderB_of W hT).1]
    omega
theorem slice_len'' {A : Option Addr} {a b c : Nat} (h : a = b) : Value.slice A a c = .slice A b c := by rw [h]
theorem bo_len (W : List Nat) (hT : IsT W) (L : List Nat) (s : Nat) (h : L ++ boL W s = boL W (2 ^ W.length - 1)) : L.length ≤ 8 := by
  have h1 := congrArg List.length h
  rw [List.length_append, (orderB_of W hT).1] at h1
  have := hT.h8
  omega
theorem bo_next (W : List Nat) (L : List Nat) (s j : Nat) (hs : s < 256) (hj : j < (mem 8 s).length) (h : L ++ boL W s = boL W (2 ^ W.length - 1)) (hok : okA W s (mem 8 s)[j] = true) (hn : ∀ i (hi : i < (mem 8 s).length), i < j → okA W s (mem 8 s)[i] = false) :
    (L ++ [(mem 8 s)[j]]) ++ boL W (s - 2 ^ (mem 8 s)[j]) = boL W (2 ^ W.length - 1) := by
  rw [← h, boL_step W s _ hs (find_at W s j hj hok hn)]
  simp
theorem bo_none (W : List Nat) (s : Nat) (hs : s < 256) (h0 : 0 < s) (hn : ∀ i (hi : i < (mem 8 s).length), i < (mem 8 s).length → okA W s (mem 8 s)[i] = false) : False := by
  obtain ⟨a, ha, ho⟩ := okA_some W s hs (by omega)
  obtain ⟨i, hi, e⟩ := List.mem_iff_getElem.1 ha
  have := hn i hi hi
  rw [e, ho] at this
  cases this
theorem bo_more {W : List Nat} {s j : Nat} (hn : ∀ i (hi : i < (mem 8 s).length), i < j → okA W s (mem 8 s)[i] = false) {a : Nat} (hj : j < (mem 8 s).length) (ha : (mem 8 s)[j] = a) (h : okA W s a = false) :
    ∀ i (hi : i < (mem 8 s).length), i < j + 1 → okA W s (mem 8 s)[i] = false := fun i hi hij => by
  by_cases e : i = j
  · subst e; rw [ha]; exact h
  · exact hn i hi (by omega)
theorem be_next {w1 w' wq : World} {g g2 a b : Nat} {v0 v1 x0 x1 : Value} (h : Below w1.heap.size w1 w' ∧ w'.cell? ⟨g, 0, none⟩ = some v0 ∧ w'.cell? ⟨g, 1, none⟩ = some v1 ∧ w'.cell? ⟨g2, a, none⟩ = some x0 ∧ w'.cell? ⟨g2, b, none⟩ = some x1) (hq : Below w'.heap.size w' wq) :
    Below w1.heap.size w1 wq ∧ wq.cell? ⟨g, 0, none⟩ = some v0 ∧ wq.cell? ⟨g, 1, none⟩ = some v1 ∧ wq.cell? ⟨g2, a, none⟩ = some x0 ∧ wq.cell? ⟨g2, b, none⟩ = some x1 := by
  obtain ⟨h0, h1, h2, h3, h4⟩ := h
  have l1 := World.block_lt_of_cell? _ _ h1
  have l3 := World.block_lt_of_cell? _ _ h3
  exact ⟨below_trans h0 hq, (hq.cell (p := ⟨g, 0, none⟩) l1).trans h1, (hq.cell (p := ⟨g, 1, none⟩) l1).trans h2, (hq.cell (p := ⟨g2, a, none⟩) l3).trans h3, (hq.cell (p := ⟨g2, b, none⟩) l3).trans h4⟩
set_option maxHeartbeats 1600000 in
set_option maxRecDepth 20000 in
theorem iBestOrder_any (A : Option Addr) (c : Nat) (s : Int) (zs : List Int) (w : World) (h : Row w w.heap.size A (ints zs)) (hl : zs.length ≤ 1099511627776) :
    Calls Try.prog 46 #[.agg #[.int .i64 s, .slice A zs.length c]] w (NewInts w 3 (rBestOrder s zs)) := by
  cases ho : okB s zs with
  | false =>
    have N : Hid (rBestOrder s zs = []) := Lib.hid (by unfold rBestOrder; rw [ho]; rfl)
    have HO := Lib.hid ho
    clear ho
    go_enter Try.func46, Try.ntmps46
    go_wp2_with fail
    refine (iTourOk_any A c s zs _ (h.rowAt (by go_grown) (Nat.le_refl _)) hl).mono ?_
    rw [HO.out]
    rintro e w1 ⟨rfl, hb⟩
    obtain ⟨k0, k1, hbw, hsz⟩ := box1 hb
    clear hb
    go_wp2
    go_ret
    exact newInts_none _ N.out hbw
  | true =>
    obtain ⟨W, rfl, rfl, hT⟩ := ok_tour ho
    have R : Hid (rBestOrder (W.length : Int) (casts W) = (casts (boL W (2 ^ W.length - 1)))) := Lib.hid (by unfold rBestOrder; rw [ho, toW_casts]; rfl)
    have g1 := hT.h1
    have g8 := hT.h8
    rw [casts_length]
    rw [R.out]
    clear R
    clear ho hl
    go_enter Try.func46, Try.ntmps46
    go_wp2_with fail
    refine (iTourOkW A c W _ hT (h.rowAt (by go_grown) (Nat.le_refl _))).mono ?_
    rintro e w1 ⟨rfl, hb⟩
    obtain ⟨k0, k1, hbw, hsz⟩ := box1 hb
    have h := h.rowAt hbw (Nat.le_refl _)
    clear hb
    obtain ⟨p1, p2⟩ := pow_bd W.length g1 g8
    have HPN := Lib.hid (pow_cast W.length)
    have HP8 := Lib.hid (pow_le8 W.length g8)
    have hq : (1 : Int) * 2 ^ W.length = 2 ^ W.length := by omega
    go_wp2_with fail
    refine (arranged_any A c W _ hT h).mono ?_
    rintro e w2 ⟨B, d, B', d', rfl, hR, hR', hb2⟩
    obtain ⟨c0, c1⟩ := held_at k0 k1 hb2
    clear hR'
    go_wp2
    go_loopw [5, 6] (fun v st wr => ∃ (s : Nat) (L : List Nat) (C : Option Addr) (e : Nat), s < 2 ^ W.length ∧ st = .int .i64 (s : Int) ∧ v = .slice C L.length e ∧ Hid (L ++ boL W s = boL W (2 ^ W.length - 1)) ∧ Own wr w2.heap.size wr.heap.size 3 C e (ints (casts L)) ∧ Below w2.heap.size w2 wr) (fun _ st _ => (intOf st).toNat)
    case atStart => exact ⟨2 ^ W.length - 1, [], none, 0, by have := Nat.two_pow_pos W.length; omega, by congr 1; have := HPN.out; have := Nat.two_pow_pos W.length; omega, rfl, Lib.hid rfl, Own.nil _ _ _ _, Below.refl _ _⟩
    case round =>
      clear hq
      obtain ⟨s, L, C, e, hs, rfl, rfl, HL, ho, hb⟩ := hrel
      have HO := Lib.hid ho
      clear ho
      have hb12 := below_trans hb2 hb
      obtain ⟨c0, c1⟩ := held_at k0 k1 hb12
      have hs256 : s < 256 := by have := HP8.out; omega
      have hL8 := bo_len W hT L s HL.out
      by_cases hs0 : 0 < s
      · go_wp2_with fail
        refine (membersOf_any (s : Int) _ (by omega) (by omega)).mono ?_
        rintro e wl ⟨M, dM, rfl, hoM, hbl⟩
        rw [Int.toNat_natCast] at *
        rw [casts_length]
        have hrM : Row wl wl.heap.size M (ints (casts (mem 8 s))) := hoM.row
        have hmk : (mem 8 s).length ≤ 8 := by rw [mem_length]; exact pc_le 8 s
        have HML := Lib.hid (fun j hj => mem_lt W.length s hs j hj)
        have HMM := Lib.hid (fun a => (mem_mem 8 s a).1)
        have HM := Lib.hid (fun a ha => mem_left s a hs256 ha)
        have HNX := Lib.hid (fun j hj => bo_next W L s j hs256 hj HL.out)
        have HNO := Lib.hid (bo_none W s hs256 hs0)
        have hbX := below_trans hb hbl
        have hb13 := below_trans hb12 hbl
        have hW := h.rowAt hb13 (Nat.le_refl _)
        have HRB := Lib.hid (hR.rowAt hbX (Nat.le_refl _))
        have HO3 := Lib.hid ((HO.out.below hbl (Nat.le_refl _)).mono (Nat.le_refl _) hbl.size)
        have HEB : Hid (∀ x, x < 256 → (ent W x).1 ≤ 64) := Lib.hid (fun x hx => by have h1 := (ent_bd W x hx).1; have h8 := pc_le 8 x; omega)
        clear hoM hbl HO
        go_wp2
        obtain ⟨wo, rfl⟩ : ∃ wo : World, wo = wr := ⟨_, rfl⟩
        go_loopw [5, 6, 26] (fun v st i wr => ∃ j : Nat, j ≤ (mem 8 s).length ∧ i = .int .i64 (j : Int) ∧ st = .int .i64 (s : Int) ∧ v = .slice C L.length e ∧ Hid (∀ i (hi : i < (mem 8 s).length), i < j → okA W s (mem 8 s)[i] = false) ∧ Below wl.heap.size wl wr) (fun _ _ i _ => (mem 8 s).length - (intOf i).toNat)
        case atStart => exact ⟨0, Nat.zero_le _, rfl, rfl, rfl, Lib.hid (fun i _ hi => absurd hi (Nat.not_lt_zero _)), Below.refl _ _⟩
        case round =>
          obtain ⟨j, hj, rfl, rfl, rfl, HN, hbi⟩ := hrel
          have hb14 := below_trans hb13 hbi
          obtain ⟨c0, c1⟩ := held_at k0 k1 hb14
          by_cases hlj : j < (mem 8 s).length
          · obtain ⟨bM, oM, rfl, _, hcM⟩ := (hrM.rowAt hbi (Nat.le_refl _)).nat hlj
            obtain ⟨q8, q1, q2, q3⟩ := HM.out _ (List.getElem_mem hlj)
            have han := HML.out j hlj
            have hbit := (HMM.out _ (List.getElem_mem hlj)).2
            have HNJ := Lib.hid (HNX.out j hlj)
            have HMO := Lib.hid (fun a (ha : (mem 8 s)[j] = a) => bo_more HN.out hlj ha)
            generalize hma : (mem 8 s)[j] = a at *
            have HMA := Lib.hid hma
            clear hma
            have HMO2 := Lib.hid (HMO.out a rfl)
            clear HMO
            obtain ⟨r1, r2⟩ := pow_small a q8
            have hw1 : IntKind.i64.wrap (2 ^ a) = 2 ^ a := by rw [IntKind.wrap_i64]; omega
            have hq2 : (1 : Int) * 2 ^ a = 2 ^ a := by omega
            have E0 := andNot_pow s a hs256 q8 hbit
            have HFC := Lib.hid (fun W' hr => firstCost_any A c W a s W' hT hr han hs hbit)
            have hcs := cst_le W a (s - 2 ^ a)
            have HOA : Hid (okA W s a = decide ((ent W (s - 2 ^ a)).1 + cst W a (s - 2 ^ a) = (ent W s).1)) := Lib.hid rfl
            have v1 := HEB.out (s - 2 ^ a) (by omega)
            have v2 := HEB.out s hs256
            have hrB := HRB.out.rowAt hbi (Nat.le_refl _)
            obtain ⟨gB, oB, rfl, _, x0⟩ := hrB.nat (k := s - 2 ^ a) (by rw [bestL_length]; omega)
            obtain ⟨gB', oB', e9, _, x1⟩ := hrB.nat (k := s) (by rw [bestL_length]; omega)
            simp only [Option.some.injEq, Addr.mk.injEq, and_true] at e9
            obtain ⟨rfl, rfl⟩ := e9
            rw [bestL_at, tbl_at _ _ _ (by omega)] at x0
            rw [bestL_at, tbl_at _ _ _ (by omega)] at x1
            have hh := h.rowAt hb14 (Nat.le_refl _)
            clear hrB
            have hl9 : s - 2 ^ a < 2 ^ W.length := by omega
            generalize (ent W (s - 2 ^ a)).1 = ea at *
            generalize (ent W s).1 = es at *
            generalize cst W a (s - 2 ^ a) = z at *
            generalize hlf : s - 2 ^ a = left at *
            have HLF := Lib.hid hlf
            clear hlf
            have hl8 : (left : Int) < ((2 ^ W.length : Nat) : Int) := by omega
            have hl7 : (left : Int) < (2 : Int) ^ W.length := by have := HPN.out; omega
            have hl6 : (0 : Int) ≤ (left : Int) := by omega
            have hl5 : (s : Int) < ((2 ^ W.length : Nat) : Int) := by omega
            have hl4 : (s : Int) < (2 : Int) ^ W.length := by have := HPN.out; omega
            have hl3 : (0 : Int) ≤ (s : Int) := by omega
            have EW : IntKind.i64.wrap ((z : Int) + (ea : Int)) = (z : Int) + (ea : Int) := by rw [IntKind.wrap_i64]; omega
            have hv : Below wr.heap.size wr wr := Below.refl _ _
            go_wp2
            go_region_held3 (fun w' => Below wr.heap.size wr w' ∧ w'.cell? ⟨w.heap.size, 0, none⟩ = some (.int .i64 (W.length : Int)) ∧ w'.cell? ⟨w.heap.size, 1, none⟩ = some (.slice A W.length c) ∧ w'.cell? ⟨gB, oB + left, none⟩ = some (.int .i64 (ea : Int)) ∧ w'.cell? ⟨gB, oB + s, none⟩ = some (.int .i64 (es : Int)))
              (first | exact ⟨hv, c0, c1, x0, x1⟩ | exact ⟨hv.drew, c0, c1, x0, x1⟩)
              ((go_at_call 89; refine (HFC.out _ (hh.rowAt (by first | exact hv | exact hv.drew) (Nat.le_refl _))).mono ?_; rintro e wv ⟨rfl, hbv⟩; obtain ⟨hv, c0, c1, x0, x1⟩ : Below wr.heap.size wr wv ∧ wv.cell? ⟨w.heap.size, 0, none⟩ = some (.int .i64 (W.length : Int)) ∧ wv.cell? ⟨w.heap.size, 1, none⟩ = some (.slice A W.length c) ∧ wv.cell? ⟨gB, oB + left, none⟩ = some (.int .i64 (ea : Int)) ∧ wv.cell? ⟨gB, oB + s, none⟩ = some (.int .i64 (es : Int)) := (by first | exact be_next ⟨hv, c0, c1, x0, x1⟩ hbv | exact be_next ⟨hv.drew, c0, c1, x0, x1⟩ hbv)))
            all_goals
              have hbv9 := below_trans hbi hv
              by_cases hok : ea + z = es
              · have et : (((z : Int) + (ea : Int)) == (es : Int)) = true := by rw [beq_iff_eq]; omega
                have HOK : Hid (okA W s a = true) := Lib.hid (HOA.out.trans (decide_eq_true hok))
                have HNJ2 := Lib.hid (HNJ.out HOK.out HN.out)
                have HO5 := Lib.hid ((HO3.out.below hbv9 (Nat.le_refl _)).mono (Nat.le_refl _) hbv9.size)
                have hb15 := below_trans hbX hbv9
                have hz15 := hb15.size
                clear hok HMO2 hbv hv c0 c1 x0 x1
                go_wp2_with (at_builtin; refine wpList_push rfl (.tmp 47) (.tmp 49) rfl w2.heap.size wv.heap.size C e L.length (casts L) (a : Int) wv.heap.size rfl rfl ?c1 ?c2 ?c3 (by omega) ?c4 ?_)
                case c1 => rw [casts_length]
                case c2 => exact HO5.out.alloc (Nat.le_refl _) _
                case c3 => go_simp
                case c4 => simp; omega
                intro A2 c2 w4 ho4 hg4
                have HO4 := Lib.hid ho4
                have hb4 := below_only (hb15.alloc hz15 (.cells #[.int .i64 (a : Int)] 3)) hg4 (Nat.le_refl _) (by simp; omega)
                clear ho4 hg4
                have E0 := E0
                go_wp2
                go_roundw
                case rel => exact ⟨left, L ++ [a], A2, c2, hl9, rfl, slice_len'' (by simp), HNJ2, by rw [casts_append]; exact HO4.out, hb4⟩
                case measure => simp [intOf]; omega
              · have et : (((z : Int) + (ea : Int)) == (es : Int)) = false := by rw [beq_eq_false_iff_ne]; omega
                have HOK : Hid (okA W s a = false) := Lib.hid (HOA.out.trans (decide_eq_false hok))
                have HN2 := Lib.hid (HMO2.out HOK.out)
                clear hok HNJ
                go_wp2
                go_roundw
                case rel => exact ⟨j + 1, by omega, by go_num, rfl, rfl, HN2, hbv9⟩
                case measure => simp [intOf]; omega
          · obtain rfl : j = (mem 8 s).length := by omega
            exact (HNO.out HN.out).elim
      · obtain rfl : s = 0 := by omega
        have HE : Hid (L = boL W (2 ^ W.length - 1)) := Lib.hid (by rw [← HL.out]; unfold boL; rw [boF_zero, List.append_nil])
        have hz1 := hbw.size
        have hz2 := hb2.size
        have HOm := Lib.hid (HO.out.mono (lo' := w.heap.size) (by omega) (Nat.le_refl _))
        go_wp2
        go_ret
        rw [← HE.out]
        exact ⟨C, e, ret_slice (by rw [casts_length]), HOm.out, hbw.trans (hb12.mono hz1)⟩
end Go.Proofs.Ytkdfjkocfejfjaa
