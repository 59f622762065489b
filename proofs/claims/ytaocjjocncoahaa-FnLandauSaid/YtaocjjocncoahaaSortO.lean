/- Sorting numbers: insertion sort, pdqsortOrdered, slices.Sort at short lists; SequenceOf, walked. -/
import Derived.Test.YtaocjjocncoahaaByScore
import Derived.Test.YtaocjjocncoahaaRegular
import Derived.Lib.Strings
import Derived.Lib.Slices
import Derived.Lib.Small
import Derived.Lib.Walk
import Derived.Lib.BitFns
namespace Go.Proofs.Ytaocjjocncoahaa
open Go.RowKit

set_option maxHeartbeats 1600000 in
theorem insOrd_any (ga c lo hi : Nat) (os : List Nat) (w : World) (h : Own w lo hi 3 (some ⟨ga, 0, none⟩) c (ints (casts os))) (hhi : hi ≤ w.heap.size) (h1 : 1 ≤ os.length) (h8 : os.length ≤ 12) :
    Calls Try.prog 90 #[.slice (some ⟨ga, 0, none⟩) os.length c, .int .i64 0, .int .i64 (os.length : Int)] w (SortedAt w lo hi ga c (fun x => (x : Int)) os) := by
  have hgl : lo ≤ ga ∧ ga < hi := by
    obtain ⟨g', e, a, b, _⟩ := h.int (k := 0) (by rw [casts_length]; omega)
    simp only [Option.some.injEq, Addr.mk.injEq, and_true] at e
    subst e
    exact ⟨a, b⟩
  obtain ⟨hg1, hg2⟩ := hgl
  go_enter Try.func90, Try.ntmps90
  go_wp2
  go_loopw [6] (fun v wr => ∃ (i : Nat) (L : List Nat), 1 ≤ i ∧ i ≤ os.length ∧ v = .int .i64 (i : Int) ∧ Hid (L.Perm os ∧ AscTo (fun x => (x : Int)) L i) ∧ Own wr lo hi 3 (some ⟨ga, 0, none⟩) c (ints (casts L)) ∧ Only lo hi w wr) (fun v _ => os.length - (intOf v).toNat)
  case atStart => exact ⟨1, os, Nat.le_refl _, h1, rfl, Lib.hid ⟨List.Perm.refl _, fun p q h1 h2 => by omega⟩, h, Only.refl _ _ _⟩
  case round =>
    clear h
    obtain ⟨i, L, hi1, hil, rfl, HL, ho, hon⟩ := hrel
    by_cases hlt : i < os.length
    · have HI := Lib.hid (Ins.start HL.out.2 (show i < L.length by rw [HL.out.1.length_eq]; exact hlt))
      have HPm := Lib.hid HL.out.1
      have HO := Lib.hid ho
      clear HL ho
      go_wp2
      go_loopw [7] (fun v wq => ∃ (j : Nat) (L' : List Nat), v = .int .i64 (j : Int) ∧ j ≤ i ∧ Hid (Ins (fun x => (x : Int)) i j L') ∧ Hid (L'.Perm os) ∧ Own wq lo hi 3 (some ⟨ga, 0, none⟩) c (ints (casts L')) ∧ Only lo hi w wq) (fun v _ => (intOf v).toNat)
      case atStart => exact ⟨i, L, rfl, Nat.le_refl _, HI, HPm, HO.out, hon⟩
      case round =>
        clear HI HPm HO hon
        obtain ⟨j, L, rfl, hji, HI, HPm, ho, hon⟩ := hrel
        have hll := HPm.out.length_eq
        have HLL := Lib.hid hll
        by_cases j0 : 0 < j
        · obtain ⟨p, rfl⟩ : ∃ p, j = p + 1 := ⟨j - 1, by omega⟩
          have hp1 : p + 1 < L.length := by omega
          have hp0 : p < L.length := by omega
          have hSW := swapL_perm L p hp1
          obtain ⟨g', e, _, _, x0, f0⟩ := ho.nat hp1
          simp only [Option.some.injEq, Addr.mk.injEq, and_true] at e
          subst e
          obtain ⟨g', e, _, _, y0, f1⟩ := ho.nat hp0
          simp only [Option.some.injEq, Addr.mk.injEq, and_true] at e
          subst e
          have HW2 := Lib.hid (fun (W' : World) (hW : Own W' lo hi 3 (some ⟨ga, 0, none⟩) c (ints (casts L))) => (by
            have ho2 := (hW.set (p + 1) (.int .i64 (L[p] : Nat))).set p (.int .i64 (L[p + 1] : Nat))
            rw [ints_casts_set, ints_casts_set] at ho2
            have ho3 := (hW.set p (.int .i64 (L[p + 1] : Nat))).set (p + 1) (.int .i64 (L[p] : Nat))
            rw [ints_casts_set, ints_casts_set] at ho3
            have hsc : (L.set p L[p + 1]).set (p + 1) L[p] = (L.set (p + 1) L[p]).set p L[p + 1] := List.set_comm _ _ (by omega)
            rw [hsc] at ho3
            have hsw : (L.set (p + 1) L[p]).set p L[p + 1] = swapL L p := by unfold swapL; rw [getD_lt _ _ _ hp1, getD_lt _ _ _ hp0]
            rw [hsw] at ho2 ho3
            exact ⟨ho2, ho3⟩ :
            Own ((W'.setCell ⟨ga, p + 1, none⟩ (.int .i64 (L[p] : Nat))).setCell ⟨ga, p, none⟩ (.int .i64 (L[p + 1] : Nat))) lo hi 3 (some ⟨ga, 0, none⟩) c (ints (casts (swapL L p))) ∧
            Own ((W'.setCell ⟨ga, p, none⟩ (.int .i64 (L[p + 1] : Nat))).setCell ⟨ga, p + 1, none⟩ (.int .i64 (L[p] : Nat))) lo hi 3 (some ⟨ga, 0, none⟩) c (ints (casts (swapL L p)))))
          have HXD := Lib.hid (getD_lt L (p + 1) 0 hp1)
          have HYD := Lib.hid (getD_lt L p 0 hp0)
          have HSW := Lib.hid hSW
          have HO := Lib.hid ho
          have hzs := hon.size
          clear ho hSW hll
          generalize L[p + 1] = x at *
          generalize L[p] = y at *
          have t1 : ((p : Int) + 1).toNat = p + 1 := by omega
          have t2 : ((p : Int) + 1 - 1).toNat = p := by omega
          have hv : Below wr.heap.size wr wr := Below.refl _ _
          have hgw : ga < wr.heap.size := by omega
          have b1 : (0 : Int) ≤ (p : Int) := by omega
          have b2 : (p : Int) < (os.length : Int) := by omega
          have b3 : (0 : Int) ≤ (p : Int) + 1 := by omega
          have b4 : (p : Int) + 1 < (os.length : Int) := by omega
          have b5 : IntKind.i64.wrap (p : Int) = (p : Int) := by rw [IntKind.wrap_i64]; omega
          rw [show ((p + 1 : Nat) : Int) = (p : Int) + 1 by omega]
          by_cases hf : (x : Int) < (y : Int)
          · have HN := Lib.hid (HI.out.swap (by rw [HXD.out, HYD.out]; exact hf))
            go_wp2
            go_region_held3 (fun w' => Below wr.heap.size wr w' ∧ w'.cell? ⟨ga, p + 1, none⟩ = some (.int .i64 (x : Int)) ∧ w'.cell? ⟨ga, p, none⟩ = some (.int .i64 (y : Int)))
              (first | exact ⟨hv, x0, y0⟩ | exact ⟨hv.drew, x0, y0⟩)
              ((go_at_call 83; refine (less_any (x : Int) (y : Int) _).mono ?_; rintro e wq ⟨rfl, rfl⟩))
            have z0 := (hv.frozen (p := ⟨ga, p + 1, none⟩) hgw).trans f0
            have z1 := (hv.frozen (p := ⟨ga, p, none⟩) hgw).trans f1
            have HOV := Lib.hid (HO.out.below hv (by omega))
            have HOL := Lib.hid (hon.trans (Only.of_below hv))
            clear hv
            go_wp2
            go_region
            all_goals
              go_wp2
              go_roundw
              case rel => exact ⟨p, swapL L p, by first | rfl | go_num, by omega, HN, Lib.hid (HSW.out.trans HPm.out), (by first | exact (HW2.out _ HOV.out).1 | exact (HW2.out _ HOV.out).2 | exact (HW2.out _ HOV.out).1.drew | exact (HW2.out _ HOV.out).2.drew), (by first | exact (HOL.out.setCell (p := ⟨ga, p + 1, none⟩) hg1 hg2 _).setCell (p := ⟨ga, p, none⟩) hg1 hg2 _ | exact (HOL.out.setCell (p := ⟨ga, p, none⟩) hg1 hg2 _).setCell (p := ⟨ga, p + 1, none⟩) hg1 hg2 _ | exact ((HOL.out.setCell (p := ⟨ga, p + 1, none⟩) hg1 hg2 _).setCell (p := ⟨ga, p, none⟩) hg1 hg2 _).drew | exact ((HOL.out.setCell (p := ⟨ga, p + 1, none⟩) hg1 hg2 _).setCell (p := ⟨ga, p, none⟩) hg1 hg2 _).drew.drew | exact ((HOL.out.setCell (p := ⟨ga, p, none⟩) hg1 hg2 _).setCell (p := ⟨ga, p + 1, none⟩) hg1 hg2 _).drew.drew | exact ((HOL.out.setCell (p := ⟨ga, p, none⟩) hg1 hg2 _).setCell (p := ⟨ga, p + 1, none⟩) hg1 hg2 _).drew)⟩
              case measure => simp [intOf]
          · have HS := Lib.hid (HI.out.stop (.inr (by rw [Nat.add_sub_cancel, HXD.out, HYD.out]; omega)))
            go_wp2
            go_region_held3 (fun w' => Below wr.heap.size wr w' ∧ w'.cell? ⟨ga, p + 1, none⟩ = some (.int .i64 (x : Int)) ∧ w'.cell? ⟨ga, p, none⟩ = some (.int .i64 (y : Int)))
              (first | exact ⟨hv, x0, y0⟩ | exact ⟨hv.drew, x0, y0⟩)
              ((go_at_call 83; refine (less_any (x : Int) (y : Int) _).mono ?_; rintro e wq ⟨rfl, rfl⟩))
            have HOV := Lib.hid (HO.out.below hv (by omega))
            have HOL := Lib.hid (hon.trans (Only.of_below hv))
            clear hv
            go_wp2
            go_roundw
            case rel => exact ⟨i + 1, L, by omega, by omega, by go_num, Lib.hid ⟨HPm.out, HS.out⟩, HOV.out, by first | exact HOL.out | exact HOL.out.drew⟩
            case measure => simp [intOf]; omega
        · obtain rfl : j = 0 := by omega
          have HS := Lib.hid (HI.out.stop (.inl rfl))
          have HO := Lib.hid ho
          clear ho hll
          have hd0 : decide ((0 : Int) < 0) = false := rfl
          go_wp2
          go_quiet (fail)
          go_wp2
          go_roundw
          case rel => exact ⟨i + 1, L, by omega, by omega, by go_num, Lib.hid ⟨HPm.out, HS.out⟩, HO.out, hon.drewN _⟩
          case measure => simp [intOf]; omega
    · obtain rfl : i = os.length := by omega
      have HO := Lib.hid ho
      clear ho
      go_wp2
      go_end0
      exact ⟨rfl, L, HL.out.1, HL.out.2, HO.out, hon⟩
set_option maxHeartbeats 4000000 in
set_option maxRecDepth 100000 in
theorem len64_any (x : Int) (w : World) (h0 : 0 ≤ x) (h1 : x ≤ 255) :
    Calls Try.prog 99 #[.int .u64 x] w fun e w' => e = .returned (.int .i64 (Lib.bitLen x.toNat)) ∧ w = w' := by
  have n1 : ¬ (4294967296 ≤ x) := by omega
  have n2 : ¬ (65536 ≤ x) := by omega
  have n3 : ¬ (256 ≤ x) := by omega
  go_enter Try.func99, Try.ntmps99
  go_wp2
  all_goals (go_ret; refine ⟨congrArg Ending.returned (congrArg (Value.int IntKind.i64) ?_), rfl⟩)
  all_goals
    rw [Lib.len8_of x (by omega) (by omega)]
    have l := Lib.bitLen_le8' x (by omega) (by omega)
    first
      | omega
      | (simp only [wrap64]; omega)
      | (unfold wrap64; omega)
theorem len_any (x : Int) (w : World) (h0 : 0 ≤ x) (h1 : x ≤ 255) :
    Calls Try.prog 70 #[.int .u64 x] w fun e w' => e = .returned (.int .i64 (Lib.bitLen x.toNat)) ∧ w = w' := by
  go_enter Try.func70, Try.ntmps70
  go_wp2_with (go_at_call 99; refine (len64_any x _ h0 h1).mono ?_; rintro e w' ⟨rfl, rfl⟩)
  go_ret
  exact ⟨rfl, rfl⟩
set_option maxHeartbeats 1600000 in
set_option maxRecDepth 100000 in
theorem pdqOrd_any (ga c lo hi : Nat) (lim : Int) (os : List Nat) (w : World) (h : Own w lo hi 3 (some ⟨ga, 0, none⟩) c (ints (casts os))) (hhi : hi ≤ w.heap.size) (h1 : 1 ≤ os.length) (h8 : os.length ≤ 12) :
    Calls Try.prog 69 #[.slice (some ⟨ga, 0, none⟩) os.length c, .int .i64 0, .int .i64 (os.length : Int), .int .i64 lim] w (SortedAt w lo hi ga c (fun x => (x : Int)) os) := by
  have HX := Lib.hid (insOrd_any ga c lo hi os w h hhi h1 h8)
  clear h
  have hle : (os.length : Int) ≤ 12 := by omega
  go_enter Try.func69, Try.ntmps69
  go_wp2
  go_loop [1, 2, 3, 8, 9] (fun a b l p q => a = .int .i64 0 ∧ b = .int .i64 (os.length : Int) ∧ l = .int .i64 lim ∧ p = .bool true ∧ q = .bool true) (fun _ _ _ _ _ => 0)
  case atStart => exact ⟨rfl, rfl, rfl, rfl, rfl⟩
  case round =>
    obtain ⟨rfl, rfl, rfl, rfl, rfl⟩ := hrel
    go_wp2_with fail
    refine HX.out.mono ?_
    rintro e w1 ⟨rfl, L, h1, h2, h3, h4⟩
    have HR := Lib.hid (And.intro h1 (And.intro h2 (And.intro h3 h4)))
    clear h1 h2 h3 h4
    go_wp2
    go_end0
    exact ⟨rfl, L, HR.out⟩
theorem sort_any (ga c lo hi : Nat) (os : List Nat) (w : World) (h : Own w lo hi 3 (some ⟨ga, 0, none⟩) c (ints (casts os))) (hhi : hi ≤ w.heap.size) (h1 : 1 ≤ os.length) (h8 : os.length ≤ 12) :
    Calls Try.prog 41 #[.slice (some ⟨ga, 0, none⟩) os.length c] w fun e w' => e = .returned (.tuple #[]) ∧ Own w' lo hi 3 (some ⟨ga, 0, none⟩) c (ints (sortL (casts os))) ∧ Only lo hi w w' := by
  have HX := Lib.hid (fun lim => pdqOrd_any ga c lo hi lim os w h hhi h1 h8)
  clear h
  go_enter Try.func41, Try.ntmps41
  go_wp2_with fail
  refine (len_any (os.length : Int) _ (by omega) (by omega)).mono ?_
  rintro e w1 ⟨rfl, rfl⟩
  go_wp2_with fail
  refine (HX.out _).mono ?_
  rintro e w1 ⟨rfl, L, h1, h2, h3, h4⟩
  have HR := Lib.hid (show casts L = sortL (casts os) from sorted_is (by
    rw [Asc, List.pairwise_iff_getElem]
    intro i j hi hj hij
    rw [casts_length] at hi hj
    have hl := h1.length_eq
    have := h2 i j hij (by omega)
    rw [getD_lt _ _ _ hi, getD_lt _ _ _ hj] at this
    simpa [casts] using this) (h1.map _))
  rw [HR.out] at h3
  have HO := Lib.hid h3
  clear h1 h2 h3
  go_wp2
  go_end0
  exact ⟨rfl, HO.out, h4⟩
def Still0 (w : World) (e : Ending) (w' : World) : Prop := e = .returned (.tuple #[]) ∧ w = w'
theorem insOrd_nil (w : World) : Calls Try.prog 90 #[.slice none 0 0, .int .i64 0, .int .i64 0] w (Still0 w) := by
  go_enter Try.func90, Try.ntmps90
  go_wp2
  go_loop [6] (fun v => v = .int .i64 1) (fun _ => 0)
  case atStart => rfl
  case round =>
    obtain rfl := hrel
    go_wp2
    go_end0
    exact ⟨rfl, rfl⟩
theorem pdqOrd_nil (lim : Int) (w : World) : Calls Try.prog 69 #[.slice none 0 0, .int .i64 0, .int .i64 0, .int .i64 lim] w (Still0 w) := by
  go_enter Try.func69, Try.ntmps69
  go_wp2
  go_loop [1, 2, 3, 8, 9] (fun a b l p q => a = .int .i64 0 ∧ b = .int .i64 0 ∧ l = .int .i64 lim ∧ p = .bool true ∧ q = .bool true) (fun _ _ _ _ _ => 0)
  case atStart => exact ⟨rfl, rfl, rfl, rfl, rfl⟩
  case round =>
    obtain ⟨rfl, rfl, rfl, rfl, rfl⟩ := hrel
    go_wp2_with fail
    refine (insOrd_nil _).mono ?_
    rintro e w1 ⟨rfl, rfl⟩
    go_wp2
    go_end0
    exact ⟨rfl, rfl⟩
theorem sort_nil (w : World) : Calls Try.prog 41 #[.slice none 0 0] w fun e w' => e = .returned (.tuple #[]) ∧ Below w.heap.size w w' := by
  go_enter Try.func41, Try.ntmps41
  go_wp2_with fail
  refine (len_any 0 _ (by omega) (by omega)).mono ?_
  rintro e w1 ⟨rfl, rfl⟩
  go_wp2_with fail
  refine (pdqOrd_nil _ _).mono ?_
  rintro e w1 ⟨rfl, rfl⟩
  go_wp2
  go_end0
  exact ⟨rfl, Below.refl _ _⟩
theorem iSequenceOf_any (A : Option Addr) (c : Nat) (s : Int) (zs : List Int) (w : World) (h : Row w w.heap.size A (ints zs)) (hl : zs.length ≤ 1099511627776) :
    Calls Try.prog 17 #[.agg #[.int .i64 s, .slice A zs.length c]] w (NewInts w 3 (rSequenceOf s zs)) := by
  cases ho : okB s zs with
  | false =>
    have N := Lib.hid (show rSequenceOf s zs = [] by unfold rSequenceOf; rw [ho]; rfl)
    have HC := Lib.hid (fun W' hr => iScoresOf_bad A c s zs W' hr hl ho)
    clear ho
    go_enter Try.func17, Try.ntmps17
    go_wp2_with fail
    refine (HC.out _ (h.rowAt (by go_grown) (Nat.le_refl _))).mono ?_
    rintro e w1 ⟨rfl, hb⟩
    obtain ⟨k0, k1, hbw, hsz⟩ := box1 hb
    clear hb
    go_wp2_with fail
    refine (sort_nil _).mono ?_
    rintro e w2 ⟨rfl, hb2⟩
    go_wp2
    go_ret
    exact newInts_none _ N.out (below_trans hbw hb2)
  | true =>
    obtain ⟨W, rfl, rfl, hT⟩ := ok_tour ho
    have g1 := hT.h1
    have g8 := hT.h8
    have HE : Hid (rScoresOf (W.length : Int) (casts W) = casts (scL W)) := Lib.hid (by unfold rScoresOf; rw [ho, toW_casts]; rfl)
    have R : rSequenceOf (W.length : Int) (casts W) = sortL (casts (scL W)) := by unfold rSequenceOf; rw [ho, toW_casts]; rfl
    have HC := Lib.hid (fun W' hr => iScoresOf_any A c (W.length : Int) (casts W) W' hr hl)
    rw [R]
    clear ho hl R
    rw [HE.out, casts_length] at HC
    rw [casts_length]
    have hll : (casts (scL W)).length = W.length := by rw [casts_length, scL_length]
    have HL := Lib.hid hll
    have HL2 := Lib.hid (scL_length W)
    have HQ := Lib.hid (sq_len W)
    clear hll
    go_enter Try.func17, Try.ntmps17
    go_wp2_with fail
    refine (HC.out _ (h.rowAt (by go_grown) (Nat.le_refl _))).mono ?_
    rintro e w1 ⟨C, d, rfl, hoC, hb⟩
    rw [HL.out]
    obtain ⟨k0, k1, hbw, hsz⟩ := box1 hb
    obtain ⟨g, rfl, -⟩ := hoC.int (k := 0) (by rw [HL.out]; omega)
    have HS := Lib.hid (sort_any g d (w.heap.size + 1) w1.heap.size (scL W) w1 (by simpa using hoC) (Nat.le_refl _) (by rw [HL2.out]; exact g1) (by rw [HL2.out]; omega))
    rw [HL2.out] at HS
    clear hoC hb
    go_wp2_with fail
    refine HS.out.mono ?_
    rintro e w2 ⟨rfl, ho2, hon⟩
    have hz := hon.size
    have HO := Lib.hid (ho2.mono (Nat.le_succ w.heap.size) hz)
    have hbX := hbw.trans (hon.below (B := w.heap.size) (Nat.le_succ _) (by omega))
    clear ho2 hon
    go_wp2
    go_ret
    exact ⟨some ⟨g, 0, none⟩, d, ret_slice HQ.out.symm, HO.out, hbX⟩
end Go.Proofs.Ytaocjjocncoahaa
