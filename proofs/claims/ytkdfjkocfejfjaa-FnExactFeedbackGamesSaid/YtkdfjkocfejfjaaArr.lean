/- arranged, walked. -/
import Derived.Test.YtkdfjkocfejfjaaTablW
import Derived.Test.YtkdfjkocfejfjaaScore
namespace Go.Proofs.Ytkdfjkocfejfjaa
open Go.RowKit
/-- A list of n numbers that is known up to k; the next one is z. -/
def zl (xs : List Nat) (m : Nat) : List Int := casts xs ++ List.replicate m 0
def zi (xs : List Nat) (z : Int) (m : Nat) : List Int := casts xs ++ z :: List.replicate m 0
theorem zl_zi (xs : List Nat) (m : Nat) : zl xs (m + 1) = zi xs 0 m := by simp [zl, zi, List.replicate_succ]
theorem zi_end (xs : List Nat) (x m : Nat) : zi xs x m = zl (xs ++ [x]) m := by simp [zl, zi, casts]
theorem zi_set (xs : List Nat) (z y : Int) (m k : Nat) (hk : k = xs.length) : (ints (zi xs z m)).set k (.int .i64 y) = ints (zi xs y m) := by
  subst hk
  unfold ints zi
  rw [← List.map_set, List.set_append_right _ _ (by rw [casts_length]; omega), casts_length, Nat.sub_self, List.set_cons_zero]
theorem zi_length (xs : List Nat) (z : Int) (m : Nat) : (zi xs z m).length = xs.length + (m + 1) := by simp [zi, casts]
theorem zi_k (xs : List Nat) (z : Int) (m k : Nat) (hk : k = xs.length) (h : k < (zi xs z m).length) : (zi xs z m)[k] = z := by
  subst hk
  simp [zi, casts]
theorem zi_lt (xs : List Nat) (z : Int) (m s : Nat) (hs : s < xs.length) (h : s < (zi xs z m).length) : (zi xs z m)[s] = (xs[s] : Nat) := by
  simp [zi, casts, hs]
theorem rep_ways (W : List Nat) (n : Nat) (hn : 0 < n) : (ints (List.replicate n 0)).set 0 (.int .i64 1) = ints (zl (waysL W 1) (n - 1)) := by
  obtain ⟨m, rfl⟩ : ∃ m, n = m + 1 := ⟨n - 1, by omega⟩
  simp [ints, zl, waysL, tbl, rowT, casts, List.replicate_succ]
theorem rep_best (W : List Nat) (n : Nat) (hn : 0 < n) : List.replicate n (0 : Int) = zl (bestL W 1) (n - 1) := by
  obtain ⟨m, rfl⟩ : ∃ m, n = m + 1 := ⟨n - 1, by omega⟩
  simp [zl, bestL, tbl, rowT, casts, List.replicate_succ]

theorem andNot_pow (k a : Nat) (hk : k < 256) (ha : a < 8) (hb : k.testBit a = true) : bits .andNot .i64 (k : Int) ((2 : Int) ^ a) = ((k - 2 ^ a : Nat) : Int) := by
  have h2 : (2 : Nat) ^ a < 256 := Nat.lt_of_lt_of_le (Nat.pow_lt_pow_right (by omega) ha) (by decide)
  rw [pow_cast, andNot_nat k (2 ^ a) hk h2, (sub_bit k a hk ha hb).1]
  congr 2
  funext i
  rw [Nat.testBit_two_pow]
  by_cases e : a = i
  · subst e; simp
  · have e2 : i ≠ a := fun h => e h.symm
    simp [e, e2]
theorem ar_next {w1 w' wq : World} {g g2 a : Nat} {v0 v1 x0 : Value} (h : Below w1.heap.size w1 w' ∧ w'.cell? ⟨g, 0, none⟩ = some v0 ∧ w'.cell? ⟨g, 1, none⟩ = some v1 ∧ w'.cell? ⟨g2, a, none⟩ = some x0) (hq : Below w'.heap.size w' wq) :
    Below w1.heap.size w1 wq ∧ wq.cell? ⟨g, 0, none⟩ = some v0 ∧ wq.cell? ⟨g, 1, none⟩ = some v1 ∧ wq.cell? ⟨g2, a, none⟩ = some x0 := by
  obtain ⟨h0, h1, h2, h3⟩ := h
  have l1 := World.block_lt_of_cell? _ _ h1
  have l3 := World.block_lt_of_cell? _ _ h3
  exact ⟨below_trans h0 hq, (hq.cell (p := ⟨g, 0, none⟩) l1).trans h1, (hq.cell (p := ⟨g, 1, none⟩) l1).trans h2, (hq.cell (p := ⟨g2, a, none⟩) l3).trans h3⟩
set_option maxHeartbeats 3200000 in
set_option maxRecDepth 20000 in
theorem arranged_any (A : Option Addr) (c : Nat) (W : List Nat) (w : World) (hT : IsT W) (h : Row w w.heap.size A (ints (casts W))) :
    Calls Try.prog 73 #[.agg #[.int .i64 (W.length : Int), .slice A W.length c]] w fun e w' => ∃ B d B' d', e = .returned (.tuple #[.slice B (2 ^ W.length) d, .slice B' (2 ^ W.length) d']) ∧ Row w' w'.heap.size B (ints (casts (bestL W (2 ^ W.length)))) ∧ Row w' w'.heap.size B' (ints (casts (waysL W (2 ^ W.length)))) ∧ Below w.heap.size w w' := by
  have g1 := hT.h1
  have g8 := hT.h8
  obtain ⟨p1, p2⟩ := pow_bd W.length g1 g8
  have hp8 := pow_le8 W.length g8
  have hp0 := Nat.two_pow_pos W.length
  have hmk := make_ints (2 ^ W.length) (by omega)
  have HPN := Lib.hid (pow_cast W.length)
  have hp : ((2 ^ W.length : Nat) : Int) = (2 : Int) ^ W.length := (pow_cast W.length).symm
  have hq : (1 : Int) * 2 ^ W.length = 2 ^ W.length := by omega
  rw [hp] at hmk
  clear hp
  have HP8 := Lib.hid hp8
  clear hp8
  go_enter Try.func73, Try.ntmps73
  go_wp2
  go_region
  · obtain ⟨w1, hw1⟩ : ∃ w1, w1 = (((w.alloc (.cells #[.int .i64 (W.length : Int), .slice A W.length c] 27)).alloc (.cells (madeCells #[.int .i64 0] (2 ^ W.length)) 3)).alloc (.cells (madeCells #[.int .i64 0] (2 ^ W.length)) 3)).drew := ⟨_, rfl⟩
    rw [← hw1]
    have k0 : w1.cell? ⟨w.heap.size, 0, none⟩ = some (.int .i64 (W.length : Int)) := by rw [hw1]; go_simp
    have k1 : w1.cell? ⟨w.heap.size, 1, none⟩ = some (.slice A W.length c) := by rw [hw1]; go_simp
    have hbw : Below w.heap.size w w1 := by rw [hw1]; go_grown
    have hz1 : w1.heap.size = w.heap.size + 3 := by rw [hw1]; simp
    have HA1 : Own w1 (w.heap.size + 1) (w.heap.size + 1 + 1) 3 (some ⟨w.heap.size + 1, 0, none⟩) (2 ^ W.length) (ints (List.replicate (2 ^ W.length) 0)) := by
      have hm := own_made (w.alloc (.cells #[.int .i64 (W.length : Int), .slice A W.length c] 27)) (w.heap.size + 1) (2 ^ W.length) (by simp) (by have := HP8.out; omega)
      rw [World.size_alloc] at hm
      rw [hw1]
      exact (hm.alloc (by simp) _).drew
    have HA2 : Own w1 (w.heap.size + 1 + 1) (w.heap.size + 1 + 1 + 1) 3 (some ⟨w.heap.size + 1 + 1, 0, none⟩) (2 ^ W.length) (ints (List.replicate (2 ^ W.length) 0)) := by
      have hm := own_made ((w.alloc (.cells #[.int .i64 (W.length : Int), .slice A W.length c] 27)).alloc (.cells (madeCells #[.int .i64 0] (2 ^ W.length)) 3)) (w.heap.size + 1 + 1) (2 ^ W.length) (by simp) (by have := HP8.out; omega)
      rw [World.size_alloc, World.size_alloc] at hm
      rw [hw1]
      exact hm.drew
    obtain ⟨gf, hgf⟩ : ∃ g, g = w.heap.size + 1 := ⟨_, rfl⟩
    obtain ⟨gm, hgm⟩ : ∃ g, g = w.heap.size + 1 + 1 := ⟨_, rfl⟩
    rw [← hgf] at HA1
    rw [← hgm] at HA2
    rw [← hgm, ← hgf]
    have hne : gf ≠ gm := by omega
    have hf1 : w.heap.size + 1 ≤ gf := by omega
    have hf2 : gf + 1 ≤ w1.heap.size := by omega
    have hm1 : w.heap.size + 1 ≤ gm := by omega
    have hm2 : gm + 1 ≤ w1.heap.size := by omega
    clear hgf hgm hw1 hmk
    have h := (h.below hbw (Nat.le_refl _)).mono (Nat.le_succ w.heap.size)
    have HF : Own w1 gf (gf + 1) 3 (some ⟨gf, 0, none⟩) (2 ^ W.length) (ints (List.replicate (2 ^ W.length) 0)) := by first | exact HA1 | exact HA2
    have HM : Own w1 gm (gm + 1) 3 (some ⟨gm, 0, none⟩) (2 ^ W.length) (ints (List.replicate (2 ^ W.length) 0)) := by first | exact HA1 | exact HA2
    clear HA1 HA2
    obtain ⟨g, e, _, _, hcm, hfm⟩ := HM.int (k := 0) (by rw [List.length_replicate]; exact hp0)
    simp only [Option.some.injEq, Addr.mk.injEq, and_true] at e
    subst e
    have ho2 := HM.set 0 (.int .i64 1)
    rw [rep_ways W _ hp0] at ho2
    have HMo := Lib.hid ho2
    rw [rep_best W _ hp0] at HF
    have HFo := Lib.hid (HF.setCell (p := ⟨gm, 0, none⟩) (by show gm < gf ∨ gf + 1 ≤ gm; omega) (.int .i64 1))
    clear HM ho2 HF
    go_wp2
    obtain ⟨w2, hw2⟩ : ∃ w2, w2 = w1.setCell ⟨gm, 0, none⟩ (.int .i64 1) := ⟨_, rfl⟩
    rw [← hw2] at HMo HFo
    rw [← hw2]
    have hb2 : Below (w.heap.size + 1) w1 w2 := by rw [hw2]; exact (Below.refl _ _).setCell (p := ⟨gm, 0, none⟩) hm1 _
    have hz2 : w2.heap.size = w1.heap.size := by rw [hw2]; simp
    clear hw2 hcm hfm
    go_loopw [6] (fun i wr => ∃ k : Nat, 1 ≤ k ∧ k ≤ 2 ^ W.length ∧ i = .int .i64 (k : Int) ∧ Own wr gf (gf + 1) 3 (some ⟨gf, 0, none⟩) (2 ^ W.length) (ints (zl (bestL W k) (2 ^ W.length - k))) ∧ Own wr gm (gm + 1) 3 (some ⟨gm, 0, none⟩) (2 ^ W.length) (ints (zl (waysL W k) (2 ^ W.length - k))) ∧ Below (w.heap.size + 1) w1 wr) (fun i _ => 2 ^ W.length + 1 - (intOf i).toNat)
    case atStart => exact ⟨1, Nat.le_refl _, hp0, rfl, HFo.out, HMo.out, hb2⟩
    case round =>
      clear HFo HMo
      obtain ⟨k, hk1, hk, rfl, hof, hom, hb⟩ := hrel
      have HOF := Lib.hid hof
      have HOM := Lib.hid hom
      clear hof hom
      obtain ⟨c0, c1⟩ := heldB k0 k1 hb (Nat.lt_succ_self _)
      by_cases hlt : k < 2 ^ W.length
      · have hlt' : (k : Int) < 2 ^ W.length := by have := HPN.out; omega
        obtain ⟨m, hm⟩ : ∃ m, 2 ^ W.length - k = m + 1 := ⟨2 ^ W.length - k - 1, by omega⟩
        rw [hm, zl_zi] at HOF HOM
        have hkl : k < (zi (bestL W k) 0 m).length := by rw [zi_length, bestL_length]; omega
        obtain ⟨g, e, _, _, hcf, hff⟩ := HOF.out.int (k := k) hkl
        simp only [Option.some.injEq, Addr.mk.injEq, and_true] at e
        subst e
        have ho2 := HOF.out.set k (.int .i64 (-1))
        rw [zi_set _ _ _ _ k (bestL_length W k).symm] at ho2
        have HOF2 := Lib.hid ho2
        have HOM2 := Lib.hid (HOM.out.setCell (p := ⟨gf, k, none⟩) (by show gf < gm ∨ gm + 1 ≤ gf; omega) (.int .i64 (-1)))
        have hbs := hb.setCell (p := ⟨gf, k, none⟩) hf1 (.int .i64 (-1))
        have h256 := HP8.out
        have HMK := Lib.hid hm
        clear ho2 HOF HOM hm
        go_wp2_with fail
        refine (membersOf_any (k : Int) _ (by omega) (by omega)).mono ?_
        rintro e wl ⟨C, dC, rfl, hoC, hbl⟩
        rw [Int.toNat_natCast] at *
        rw [casts_length]
        go_wp2
        have hm1' : w.heap.size + 1 ≤ w1.heap.size := by omega
        have hbX := belowB hbs hm1' hbl
        have hzr := hb.size
        have hzs : (wr.setCell ⟨gf, k, none⟩ (.int .i64 (-1))).heap.size = wr.heap.size := by simp
        have hzl := hbl.size
        rw [hzs] at hzl
        have HOF3 := Lib.hid (HOF2.out.below hbl (by omega))
        have HOM3 := Lib.hid (HOM2.out.below hbl (by omega))
        rw [hzs] at hoC
        have HC := Lib.hid hoC
        have HM := Lib.hid (fun a ha => mem_left k a (by omega) ha)
        have HMM := Lib.hid (fun a => (mem_mem 8 k a).1)
        have HML := Lib.hid (fun j hj => mem_lt W.length k hlt j hj)
        have HEB : Hid (∀ x, x < k → ((tbl W k).getD x (0, 0)).1 ≤ 64 ∧ ((tbl W k).getD x (0, 0)).2 ≤ 16777216) := Lib.hid (fun x hx => by
          rw [tbl_at W k x hx]
          obtain ⟨e1, e2⟩ := ent_bd W x (by omega)
          have h8 := pc_le 8 x
          have h9 : 8 ^ pc 8 x ≤ 8 ^ 8 := Nat.pow_le_pow_right (by omega) h8
          exact ⟨by omega, by omega⟩)
        have HSB := Lib.hid (fun j hj => st_bd W (tbl W k) k 64 16777216 (fun a ha => by
          obtain ⟨_, q1, _, _⟩ := HM.out a ha
          exact HEB.out _ q1) j hj)
        have hmk : (mem 8 k).length ≤ 8 := by rw [mem_length]; exact pc_le 8 k
        have HSTS := Lib.hid (fun j (hj : j < (mem 8 k).length) => (show stK W (tbl W k) k (j + 1) = stepT W (tbl W k) k (stK W (tbl W k) k j) (mem 8 k)[j] by rw [stK, getD_lt _ _ _ hj]))
        clear hoC hzs HOF2 HOM2 hbs hbl c0 c1 hcf hff
        obtain ⟨wo, rfl⟩ : ∃ wo : World, wo = wr := ⟨_, rfl⟩
        go_loopw [33] (fun i wr => ∃ j : Nat, j ≤ (mem 8 k).length ∧ i = .int .i64 (j : Int) ∧ Own wr gf (gf + 1) 3 (some ⟨gf, 0, none⟩) (2 ^ W.length) (ints (zi (bestL W k) (stK W (tbl W k) k j).1 m)) ∧ Own wr gm (gm + 1) 3 (some ⟨gm, 0, none⟩) (2 ^ W.length) (ints (zi (waysL W k) ((stK W (tbl W k) k j).2 : Nat) m)) ∧ Own wr wo.heap.size wl.heap.size 3 C dC (ints (casts (mem 8 k))) ∧ Below (w.heap.size + 1) w1 wr ∧ wl.heap.size ≤ wr.heap.size) (fun i _ => (mem 8 k).length - (intOf i).toNat)
        case atStart => exact ⟨0, Nat.zero_le _, rfl, HOF3.out, HOM3.out, HC.out, hbX, Nat.le_refl _⟩
        case round =>
          obtain ⟨j, hj, rfl, hof, hom, hoc, hbq, hzq⟩ := hrel
          clear HOF3 HOM3 HC
          obtain ⟨c0, c1⟩ := heldB k0 k1 hbq (Nat.lt_succ_self _)
          by_cases hlj : j < (mem 8 k).length
          · obtain ⟨gC, rfl, _, hgC, hcC, _⟩ := hoc.nat hlj
            obtain ⟨q8, q1, q2, q3⟩ := HM.out _ (List.getElem_mem hlj)
            have han := HML.out j hlj
            have hbit := (HMM.out _ (List.getElem_mem hlj)).2
            have HS := HSTS.out j hlj
            obtain ⟨b1, b2, b3, b4⟩ := HSB.out j (by omega)
            have b5 : (stK W (tbl W k) k j).2 ≤ 134217728 := Nat.le_trans b4 (Nat.mul_le_mul_right 16777216 (show j ≤ 8 by omega))
            clear b4 b3
            unfold stepT costT wayT at HS
            generalize stK W (tbl W k) k j = st at *
            obtain ⟨l, n⟩ := st
            simp only at b1 b2 b5 HS hof hom
            generalize (mem 8 k)[j] = a at *
            obtain ⟨r1, r2⟩ := pow_small a q8
            have hw1 : IntKind.i64.wrap (2 ^ a) = 2 ^ a := by rw [IntKind.wrap_i64]; omega
            have E0 := andNot_pow k a (by omega) q8 hbit
            have HFC := Lib.hid (fun W' hr => firstCost_any A c W a k W' hT hr han hlt hbit)
            have hcs := cst_le W a (k - 2 ^ a)
            have hkb : k < (zi (bestL W k) l m).length := by rw [zi_length, bestL_length]; omega
            have hlb : k - 2 ^ a < (zi (bestL W k) l m).length := by omega
            have hkw : k < (zi (waysL W k) (n : Int) m).length := by rw [zi_length, waysL_length]; omega
            have hlw : k - 2 ^ a < (zi (waysL W k) (n : Int) m).length := by omega
            obtain ⟨g, e, _, _, x0, _⟩ := hof.int (k := k - 2 ^ a) hlb
            simp only [Option.some.injEq, Addr.mk.injEq, and_true] at e
            subst e
            rw [zi_lt _ _ _ _ (by rw [bestL_length]; exact q1), bestL_at] at x0
            have hX1 : wr.cell? ⟨gm, k - 2 ^ a, none⟩ = some (.int .i64 (((tbl W k).getD (k - 2 ^ a) (0, 0)).2 : Nat)) := by
              obtain ⟨g, e, _, _, x1, _⟩ := hom.int (k := k - 2 ^ a) hlw
              simp only [Option.some.injEq, Addr.mk.injEq, and_true] at e
              subst e
              rwa [zi_lt _ _ _ _ (by rw [waysL_length]; exact q1), waysL_at] at x1
            obtain ⟨v1, v2⟩ := HEB.out _ q1
            have HOFQ := Lib.hid hof
            have HOMQ := Lib.hid hom
            have HOCQ := Lib.hid hoc
            clear hof hom hoc hkb hlb hkw hlw
            generalize (tbl W k).getD (k - 2 ^ a) (0, 0) = en at *
            obtain ⟨eb, ew⟩ := en
            simp only at v1 v2 HS x0 hX1
            generalize cst W a (k - 2 ^ a) = z at *
            have hl9 : k - 2 ^ a < 2 ^ W.length := by omega
            generalize k - 2 ^ a = left at *
            have hl8 : (left : Int) < ((2 ^ W.length : Nat) : Int) := by omega
            have hl7 : (left : Int) < (2 : Int) ^ W.length := by have := HPN.out; omega
            have hl6 : (0 : Int) ≤ (left : Int) := by omega
            have EW : IntKind.i64.wrap ((z : Int) + (eb : Int)) = ((eb + z : Nat) : Int) := by rw [IntKind.wrap_i64]; omega
            have HS := Lib.hid HS
            have hv : Below wr.heap.size wr wr := Below.refl _ _
            go_wp2
            go_region_held3 (fun w' => Below wr.heap.size wr w' ∧ w'.cell? ⟨w.heap.size, 0, none⟩ = some (.int .i64 (W.length : Int)) ∧ w'.cell? ⟨w.heap.size, 1, none⟩ = some (.slice A W.length c) ∧ w'.cell? ⟨gf, left, none⟩ = some (.int .i64 (eb : Int)))
              (first | exact ⟨hv, c0, c1, x0⟩ | exact ⟨hv.drew, c0, c1, x0⟩)
              ((go_at_call 89; refine (HFC.out _ (rowB h (belowB hbq hm1' (by first | exact hv | exact hv.drew)) hm1')).mono ?_; rintro e wv ⟨rfl, hbv⟩; obtain ⟨hv, c0, c1, x0⟩ : Below wr.heap.size wr wv ∧ wv.cell? ⟨w.heap.size, 0, none⟩ = some (.int .i64 (W.length : Int)) ∧ wv.cell? ⟨w.heap.size, 1, none⟩ = some (.slice A W.length c) ∧ wv.cell? ⟨gf, left, none⟩ = some (.int .i64 (eb : Int)) := (by first | exact ar_next ⟨hv, c0, c1, x0⟩ hbv | exact ar_next ⟨hv.drew, c0, c1, x0⟩ hbv)))
            all_goals
              have hs9 := hbq.size
              have HFV := Lib.hid (HOFQ.out.below hv (by omega))
              have HMV := Lib.hid (HOMQ.out.below hv (by omega))
              have HCV := Lib.hid (HOCQ.out.below hv hzq)
              have hX2 := (hv.cell (p := ⟨gm, left, none⟩) (show gm < wr.heap.size by omega)).trans hX1
              have hkb : k < (zi (bestL W k) l m).length := by rw [zi_length, bestL_length]; omega
              obtain ⟨g, e, _, _, y0, yf0⟩ := HFV.out.int (k := k) hkb
              simp only [Option.some.injEq, Addr.mk.injEq, and_true] at e
              subst e
              rw [zi_k _ _ _ k (bestL_length W k).symm] at y0
              have hkw : k < (zi (waysL W k) (n : Int) m).length := by rw [zi_length, waysL_length]; omega
              obtain ⟨g, e, _, _, y1, yf1⟩ := HMV.out.int (k := k) hkw
              simp only [Option.some.injEq, Addr.mk.injEq, and_true] at e
              subst e
              rw [zi_k _ _ _ k (waysL_length W k).symm] at y1
              have HBV := Lib.hid (belowB hbq hm1' hv)
              have hz9 : wl.heap.size ≤ wv.heap.size := Nat.le_trans hzq hv.size
              have hfo : gf < wo.heap.size := by have := hb.size; omega
              have hmo : gm < wo.heap.size := by have := hb.size; omega
              have hd1 : gm < gf ∨ gf + 1 ≤ gm := by omega
              have hd2 : gf < gm ∨ gm + 1 ≤ gf := by omega
              have EN : IntKind.i64.wrap ((n : Int) + (ew : Int)) = ((n + ew : Nat) : Int) := by rw [IntKind.wrap_i64]; omega
              have HEN := Lib.hid EN
              have q1 := (HFV.out.set k (.int .i64 ((eb + z : Nat) : Int))).setCell (p := ⟨gm, k, none⟩) hd1 (.int .i64 (ew : Int))
              rw [zi_set _ _ _ _ k (bestL_length W k).symm] at q1
              have q2 := (HMV.out.setCell (p := ⟨gf, k, none⟩) hd2 (.int .i64 ((eb + z : Nat) : Int))).set k (.int .i64 (ew : Int))
              rw [zi_set _ _ _ _ k (waysL_length W k).symm] at q2
              have q3 := (HCV.out.setCell (p := ⟨gf, k, none⟩) (Or.inl hfo) (.int .i64 ((eb + z : Nat) : Int))).setCell (p := ⟨gm, k, none⟩) (Or.inl hmo) (.int .i64 (ew : Int))
              have q4 := (HBV.out.setCell (p := ⟨gf, k, none⟩) hf1 (.int .i64 ((eb + z : Nat) : Int))).setCell (p := ⟨gm, k, none⟩) hm1 (.int .i64 (ew : Int))
              have s1 := HFV.out.setCell (p := ⟨gm, k, none⟩) hd1 (.int .i64 ((n + ew : Nat) : Int))
              have s2 := HMV.out.set k (.int .i64 ((n + ew : Nat) : Int))
              rw [zi_set _ _ _ _ k (waysL_length W k).symm] at s2
              have s3 := HCV.out.setCell (p := ⟨gm, k, none⟩) (Or.inl hmo) (.int .i64 ((n + ew : Nat) : Int))
              have s4 := HBV.out.setCell (p := ⟨gm, k, none⟩) hm1 (.int .i64 ((n + ew : Nat) : Int))
              have Q1 := Lib.hid q1
              have Q2 := Lib.hid q2
              have Q3 := Lib.hid q3
              have Q4 := Lib.hid q4
              have S1 := Lib.hid s1
              have S2 := Lib.hid s2
              have S3 := Lib.hid s3
              have S4 := Lib.hid s4
              have hke : k < 256 := by omega
              clear q1 q2 q3 q4 s1 s2 s3 s4 hv hbv c0 c1 x0 hX1 hkb hkw E0 hcs HFC HEB HSB HSTS HM HMM HML HOFQ HOMQ HOCQ hbq hb hbX EN
              by_cases ca : l < 0
              · have HSx := Lib.hid (HS.out.trans (if_pos (Or.inl ca)))
                clear HS
                go_wp2
                go_roundw
                case rel => exact ⟨j + 1, by omega, by go_num, by rw [HSx.out]; exact Q1.out, by rw [HSx.out]; exact Q2.out, Q3.out, Q4.out, by simp; omega⟩
                case measure => simp [intOf]; omega
              · by_cases cb : ((eb + z : Nat) : Int) < l
                · have HSx := Lib.hid (HS.out.trans (if_pos (Or.inr cb)))
                  have cb' : (eb : Int) + (z : Int) < l := by omega
                  clear HS
                  go_wp2
                  go_roundw
                  case rel => exact ⟨j + 1, by omega, by go_num, by rw [HSx.out]; exact Q1.out, by rw [HSx.out]; exact Q2.out, Q3.out, Q4.out, by simp; omega⟩
                  case measure => simp [intOf]; omega
                · by_cases cc : ((eb + z : Nat) : Int) = l
                  · have HSx := Lib.hid (HS.out.trans ((if_neg (by rintro (h | h); exact ca h; exact cb h)).trans (if_pos cc)))
                    have cb' : ¬ (eb : Int) + (z : Int) < l := by omega
                    have e3 : (((eb + z : Nat) : Int) == l) = true := by rw [beq_iff_eq]; omega
                    have e4 : (((eb : Int) + (z : Int)) == l) = true := by rw [beq_iff_eq]; omega
                    have EN := HEN.out
                    clear HS cc
                    go_wp2
                    go_region
                    all_goals
                      go_wp2
                      go_roundw
                      case rel => exact ⟨j + 1, by omega, by go_num, by rw [HSx.out]; exact S1.out, by rw [HSx.out]; exact S2.out, S3.out, (by first | exact S4.out | exact S4.out.drew), by simp; omega⟩
                      case measure => simp [intOf]; omega
                  · have HSx := Lib.hid (HS.out.trans ((if_neg (by rintro (h | h); exact ca h; exact cb h)).trans (if_neg cc)))
                    have cb' : ¬ (eb : Int) + (z : Int) < l := by omega
                    have e3 : (((eb + z : Nat) : Int) == l) = false := by rw [beq_eq_false_iff_ne]; omega
                    have e4 : (((eb : Int) + (z : Int)) == l) = false := by rw [beq_eq_false_iff_ne]; omega
                    clear HS cc
                    go_wp2
                    go_roundw
                    case rel => exact ⟨j + 1, by omega, by go_num, by rw [HSx.out]; exact HFV.out, by rw [HSx.out]; exact HMV.out, HCV.out, HBV.out, hz9⟩
                    case measure => simp [intOf]; omega
          · obtain rfl : j = (mem 8 k).length := by omega
            have hpos : 0 < (mem 8 k).length := by
              rw [mem_length]
              have := pc_zero k (by omega)
              omega
            obtain ⟨b1, b2, b3, b4⟩ := HSB.out _ (Nat.le_refl _)
            have e1 : (stK W (tbl W k) k (mem 8 k).length).1 = (((ent W k).1 : Nat) : Int) := by unfold ent rowT; rw [if_neg (by omega)]; exact (Int.toNat_of_nonneg (b3 hpos)).symm
            have e2 : (stK W (tbl W k) k (mem 8 k).length).2 = (ent W k).2 := by unfold ent rowT; rw [if_neg (by omega)]
            have em : m = 2 ^ W.length - (k + 1) := by have := HMK.out; omega
            rw [e1, zi_end, ← bestL_succ, em] at hof
            rw [e2, zi_end, ← waysL_succ, em] at hom
            have HE1 := Lib.hid hof
            have HE2 := Lib.hid hom
            have hlj' : ¬ ((mem 8 k).length : Int) < ((mem 8 k).length : Int) := by omega
            clear hof hom hmk hlj hj hpos b1 b2 b3 b4 e1 e2 em HMK HSB HSTS HEB HML HMM HM hzl hzr hzq hbX hb
            generalize hlen : (mem 8 k).length = len at *
            clear hlen
            go_wp2
            go_roundw
            case rel => exact ⟨k + 1, by omega, by omega, by go_num, HE1.out, HE2.out, hbq⟩
            case measure => simp [intOf]; omega
      · have hlt' : ¬ (k : Int) < 2 ^ W.length := by have := HPN.out; omega
        have EK := Lib.hid (show k = 2 ^ W.length by omega)
        have hR1 : Row wr wr.heap.size (some ⟨gf, 0, none⟩) (ints (casts (bestL W k))) := by
          have := HOF.out.row
          rw [show 2 ^ W.length - k = 0 by omega] at this
          have h9 := hb.size
          simpa [zl] using this.mono (by omega)
        have hR2 : Row wr wr.heap.size (some ⟨gm, 0, none⟩) (ints (casts (waysL W k))) := by
          have := HOM.out.row
          rw [show 2 ^ W.length - k = 0 by omega] at this
          have h9 := hb.size
          simpa [zl] using this.mono (by omega)
        go_wp2
        refine bodyPost_ret (v := .tuple #[.slice (some ⟨gf, 0, none⟩) (2 ^ W.length) (2 ^ W.length), .slice (some ⟨gm, 0, none⟩) (2 ^ W.length) (2 ^ W.length)]) (by simp [results, Try.results73, go_sem]) rfl ?_
        rw [EK.out] at hR1 hR2
        exact ⟨some ⟨gf, 0, none⟩, 2 ^ W.length, some ⟨gm, 0, none⟩, ⟨2 ^ W.length, rfl⟩, hR1, hR2, hbw.trans (hb.mono (by omega))⟩
  · obtain ⟨w1, hw1⟩ : ∃ w1, w1 = (((w.alloc (.cells #[.int .i64 (W.length : Int), .slice A W.length c] 27)).alloc (.cells (madeCells #[.int .i64 0] (2 ^ W.length)) 3)).alloc (.cells (madeCells #[.int .i64 0] (2 ^ W.length)) 3)).drew := ⟨_, rfl⟩
    rw [← hw1]
    have k0 : w1.cell? ⟨w.heap.size, 0, none⟩ = some (.int .i64 (W.length : Int)) := by rw [hw1]; go_simp
    have k1 : w1.cell? ⟨w.heap.size, 1, none⟩ = some (.slice A W.length c) := by rw [hw1]; go_simp
    have hbw : Below w.heap.size w w1 := by rw [hw1]; go_grown
    have hz1 : w1.heap.size = w.heap.size + 3 := by rw [hw1]; simp
    have HA1 : Own w1 (w.heap.size + 1) (w.heap.size + 1 + 1) 3 (some ⟨w.heap.size + 1, 0, none⟩) (2 ^ W.length) (ints (List.replicate (2 ^ W.length) 0)) := by
      have hm := own_made (w.alloc (.cells #[.int .i64 (W.length : Int), .slice A W.length c] 27)) (w.heap.size + 1) (2 ^ W.length) (by simp) (by have := HP8.out; omega)
      rw [World.size_alloc] at hm
      rw [hw1]
      exact (hm.alloc (by simp) _).drew
    have HA2 : Own w1 (w.heap.size + 1 + 1) (w.heap.size + 1 + 1 + 1) 3 (some ⟨w.heap.size + 1 + 1, 0, none⟩) (2 ^ W.length) (ints (List.replicate (2 ^ W.length) 0)) := by
      have hm := own_made ((w.alloc (.cells #[.int .i64 (W.length : Int), .slice A W.length c] 27)).alloc (.cells (madeCells #[.int .i64 0] (2 ^ W.length)) 3)) (w.heap.size + 1 + 1) (2 ^ W.length) (by simp) (by have := HP8.out; omega)
      rw [World.size_alloc, World.size_alloc] at hm
      rw [hw1]
      exact hm.drew
    obtain ⟨gf, hgf⟩ : ∃ g, g = w.heap.size + 1 + 1 := ⟨_, rfl⟩
    obtain ⟨gm, hgm⟩ : ∃ g, g = w.heap.size + 1 := ⟨_, rfl⟩
    rw [← hgm] at HA1
    rw [← hgf] at HA2
    rw [← hgf, ← hgm]
    have hne : gf ≠ gm := by omega
    have hf1 : w.heap.size + 1 ≤ gf := by omega
    have hf2 : gf + 1 ≤ w1.heap.size := by omega
    have hm1 : w.heap.size + 1 ≤ gm := by omega
    have hm2 : gm + 1 ≤ w1.heap.size := by omega
    clear hgf hgm hw1 hmk
    have h := (h.below hbw (Nat.le_refl _)).mono (Nat.le_succ w.heap.size)
    have HF : Own w1 gf (gf + 1) 3 (some ⟨gf, 0, none⟩) (2 ^ W.length) (ints (List.replicate (2 ^ W.length) 0)) := by first | exact HA1 | exact HA2
    have HM : Own w1 gm (gm + 1) 3 (some ⟨gm, 0, none⟩) (2 ^ W.length) (ints (List.replicate (2 ^ W.length) 0)) := by first | exact HA1 | exact HA2
    clear HA1 HA2
    obtain ⟨g, e, _, _, hcm, hfm⟩ := HM.int (k := 0) (by rw [List.length_replicate]; exact hp0)
    simp only [Option.some.injEq, Addr.mk.injEq, and_true] at e
    subst e
    have ho2 := HM.set 0 (.int .i64 1)
    rw [rep_ways W _ hp0] at ho2
    have HMo := Lib.hid ho2
    rw [rep_best W _ hp0] at HF
    have HFo := Lib.hid (HF.setCell (p := ⟨gm, 0, none⟩) (by show gm < gf ∨ gf + 1 ≤ gm; omega) (.int .i64 1))
    clear HM ho2 HF
    go_wp2
    obtain ⟨w2, hw2⟩ : ∃ w2, w2 = w1.setCell ⟨gm, 0, none⟩ (.int .i64 1) := ⟨_, rfl⟩
    rw [← hw2] at HMo HFo
    rw [← hw2]
    have hb2 : Below (w.heap.size + 1) w1 w2 := by rw [hw2]; exact (Below.refl _ _).setCell (p := ⟨gm, 0, none⟩) hm1 _
    have hz2 : w2.heap.size = w1.heap.size := by rw [hw2]; simp
    clear hw2 hcm hfm
    go_loopw [6] (fun i wr => ∃ k : Nat, 1 ≤ k ∧ k ≤ 2 ^ W.length ∧ i = .int .i64 (k : Int) ∧ Own wr gf (gf + 1) 3 (some ⟨gf, 0, none⟩) (2 ^ W.length) (ints (zl (bestL W k) (2 ^ W.length - k))) ∧ Own wr gm (gm + 1) 3 (some ⟨gm, 0, none⟩) (2 ^ W.length) (ints (zl (waysL W k) (2 ^ W.length - k))) ∧ Below (w.heap.size + 1) w1 wr) (fun i _ => 2 ^ W.length + 1 - (intOf i).toNat)
    case atStart => exact ⟨1, Nat.le_refl _, hp0, rfl, HFo.out, HMo.out, hb2⟩
    case round =>
      clear HFo HMo
      obtain ⟨k, hk1, hk, rfl, hof, hom, hb⟩ := hrel
      have HOF := Lib.hid hof
      have HOM := Lib.hid hom
      clear hof hom
      obtain ⟨c0, c1⟩ := heldB k0 k1 hb (Nat.lt_succ_self _)
      by_cases hlt : k < 2 ^ W.length
      · have hlt' : (k : Int) < 2 ^ W.length := by have := HPN.out; omega
        obtain ⟨m, hm⟩ : ∃ m, 2 ^ W.length - k = m + 1 := ⟨2 ^ W.length - k - 1, by omega⟩
        rw [hm, zl_zi] at HOF HOM
        have hkl : k < (zi (bestL W k) 0 m).length := by rw [zi_length, bestL_length]; omega
        obtain ⟨g, e, _, _, hcf, hff⟩ := HOF.out.int (k := k) hkl
        simp only [Option.some.injEq, Addr.mk.injEq, and_true] at e
        subst e
        have ho2 := HOF.out.set k (.int .i64 (-1))
        rw [zi_set _ _ _ _ k (bestL_length W k).symm] at ho2
        have HOF2 := Lib.hid ho2
        have HOM2 := Lib.hid (HOM.out.setCell (p := ⟨gf, k, none⟩) (by show gf < gm ∨ gm + 1 ≤ gf; omega) (.int .i64 (-1)))
        have hbs := hb.setCell (p := ⟨gf, k, none⟩) hf1 (.int .i64 (-1))
        have h256 := HP8.out
        have HMK := Lib.hid hm
        clear ho2 HOF HOM hm
        go_wp2_with fail
        refine (membersOf_any (k : Int) _ (by omega) (by omega)).mono ?_
        rintro e wl ⟨C, dC, rfl, hoC, hbl⟩
        rw [Int.toNat_natCast] at *
        rw [casts_length]
        go_wp2
        have hm1' : w.heap.size + 1 ≤ w1.heap.size := by omega
        have hbX := belowB hbs hm1' hbl
        have hzr := hb.size
        have hzs : (wr.setCell ⟨gf, k, none⟩ (.int .i64 (-1))).heap.size = wr.heap.size := by simp
        have hzl := hbl.size
        rw [hzs] at hzl
        have HOF3 := Lib.hid (HOF2.out.below hbl (by omega))
        have HOM3 := Lib.hid (HOM2.out.below hbl (by omega))
        rw [hzs] at hoC
        have HC := Lib.hid hoC
        have HM := Lib.hid (fun a ha => mem_left k a (by omega) ha)
        have HMM := Lib.hid (fun a => (mem_mem 8 k a).1)
        have HML := Lib.hid (fun j hj => mem_lt W.length k hlt j hj)
        have HEB : Hid (∀ x, x < k → ((tbl W k).getD x (0, 0)).1 ≤ 64 ∧ ((tbl W k).getD x (0, 0)).2 ≤ 16777216) := Lib.hid (fun x hx => by
          rw [tbl_at W k x hx]
          obtain ⟨e1, e2⟩ := ent_bd W x (by omega)
          have h8 := pc_le 8 x
          have h9 : 8 ^ pc 8 x ≤ 8 ^ 8 := Nat.pow_le_pow_right (by omega) h8
          exact ⟨by omega, by omega⟩)
        have HSB := Lib.hid (fun j hj => st_bd W (tbl W k) k 64 16777216 (fun a ha => by
          obtain ⟨_, q1, _, _⟩ := HM.out a ha
          exact HEB.out _ q1) j hj)
        have hmk : (mem 8 k).length ≤ 8 := by rw [mem_length]; exact pc_le 8 k
        have HSTS := Lib.hid (fun j (hj : j < (mem 8 k).length) => (show stK W (tbl W k) k (j + 1) = stepT W (tbl W k) k (stK W (tbl W k) k j) (mem 8 k)[j] by rw [stK, getD_lt _ _ _ hj]))
        clear hoC hzs HOF2 HOM2 hbs hbl c0 c1 hcf hff
        obtain ⟨wo, rfl⟩ : ∃ wo : World, wo = wr := ⟨_, rfl⟩
        go_loopw [33] (fun i wr => ∃ j : Nat, j ≤ (mem 8 k).length ∧ i = .int .i64 (j : Int) ∧ Own wr gf (gf + 1) 3 (some ⟨gf, 0, none⟩) (2 ^ W.length) (ints (zi (bestL W k) (stK W (tbl W k) k j).1 m)) ∧ Own wr gm (gm + 1) 3 (some ⟨gm, 0, none⟩) (2 ^ W.length) (ints (zi (waysL W k) ((stK W (tbl W k) k j).2 : Nat) m)) ∧ Own wr wo.heap.size wl.heap.size 3 C dC (ints (casts (mem 8 k))) ∧ Below (w.heap.size + 1) w1 wr ∧ wl.heap.size ≤ wr.heap.size) (fun i _ => (mem 8 k).length - (intOf i).toNat)
        case atStart => exact ⟨0, Nat.zero_le _, rfl, HOF3.out, HOM3.out, HC.out, hbX, Nat.le_refl _⟩
        case round =>
          obtain ⟨j, hj, rfl, hof, hom, hoc, hbq, hzq⟩ := hrel
          clear HOF3 HOM3 HC
          obtain ⟨c0, c1⟩ := heldB k0 k1 hbq (Nat.lt_succ_self _)
          by_cases hlj : j < (mem 8 k).length
          · obtain ⟨gC, rfl, _, hgC, hcC, _⟩ := hoc.nat hlj
            obtain ⟨q8, q1, q2, q3⟩ := HM.out _ (List.getElem_mem hlj)
            have han := HML.out j hlj
            have hbit := (HMM.out _ (List.getElem_mem hlj)).2
            have HS := HSTS.out j hlj
            obtain ⟨b1, b2, b3, b4⟩ := HSB.out j (by omega)
            have b5 : (stK W (tbl W k) k j).2 ≤ 134217728 := Nat.le_trans b4 (Nat.mul_le_mul_right 16777216 (show j ≤ 8 by omega))
            clear b4 b3
            unfold stepT costT wayT at HS
            generalize stK W (tbl W k) k j = st at *
            obtain ⟨l, n⟩ := st
            simp only at b1 b2 b5 HS hof hom
            generalize (mem 8 k)[j] = a at *
            obtain ⟨r1, r2⟩ := pow_small a q8
            have hw1 : IntKind.i64.wrap (2 ^ a) = 2 ^ a := by rw [IntKind.wrap_i64]; omega
            have E0 := andNot_pow k a (by omega) q8 hbit
            have HFC := Lib.hid (fun W' hr => firstCost_any A c W a k W' hT hr han hlt hbit)
            have hcs := cst_le W a (k - 2 ^ a)
            have hkb : k < (zi (bestL W k) l m).length := by rw [zi_length, bestL_length]; omega
            have hlb : k - 2 ^ a < (zi (bestL W k) l m).length := by omega
            have hkw : k < (zi (waysL W k) (n : Int) m).length := by rw [zi_length, waysL_length]; omega
            have hlw : k - 2 ^ a < (zi (waysL W k) (n : Int) m).length := by omega
            obtain ⟨g, e, _, _, x0, _⟩ := hof.int (k := k - 2 ^ a) hlb
            simp only [Option.some.injEq, Addr.mk.injEq, and_true] at e
            subst e
            rw [zi_lt _ _ _ _ (by rw [bestL_length]; exact q1), bestL_at] at x0
            have hX1 : wr.cell? ⟨gm, k - 2 ^ a, none⟩ = some (.int .i64 (((tbl W k).getD (k - 2 ^ a) (0, 0)).2 : Nat)) := by
              obtain ⟨g, e, _, _, x1, _⟩ := hom.int (k := k - 2 ^ a) hlw
              simp only [Option.some.injEq, Addr.mk.injEq, and_true] at e
              subst e
              rwa [zi_lt _ _ _ _ (by rw [waysL_length]; exact q1), waysL_at] at x1
            obtain ⟨v1, v2⟩ := HEB.out _ q1
            have HOFQ := Lib.hid hof
            have HOMQ := Lib.hid hom
            have HOCQ := Lib.hid hoc
            clear hof hom hoc hkb hlb hkw hlw
            generalize (tbl W k).getD (k - 2 ^ a) (0, 0) = en at *
            obtain ⟨eb, ew⟩ := en
            simp only at v1 v2 HS x0 hX1
            generalize cst W a (k - 2 ^ a) = z at *
            have hl9 : k - 2 ^ a < 2 ^ W.length := by omega
            generalize k - 2 ^ a = left at *
            have hl8 : (left : Int) < ((2 ^ W.length : Nat) : Int) := by omega
            have hl7 : (left : Int) < (2 : Int) ^ W.length := by have := HPN.out; omega
            have hl6 : (0 : Int) ≤ (left : Int) := by omega
            have EW : IntKind.i64.wrap ((z : Int) + (eb : Int)) = ((eb + z : Nat) : Int) := by rw [IntKind.wrap_i64]; omega
            have HS := Lib.hid HS
            have hv : Below wr.heap.size wr wr := Below.refl _ _
            go_wp2
            go_region_held3 (fun w' => Below wr.heap.size wr w' ∧ w'.cell? ⟨w.heap.size, 0, none⟩ = some (.int .i64 (W.length : Int)) ∧ w'.cell? ⟨w.heap.size, 1, none⟩ = some (.slice A W.length c) ∧ w'.cell? ⟨gf, left, none⟩ = some (.int .i64 (eb : Int)))
              (first | exact ⟨hv, c0, c1, x0⟩ | exact ⟨hv.drew, c0, c1, x0⟩)
              ((go_at_call 89; refine (HFC.out _ (rowB h (belowB hbq hm1' (by first | exact hv | exact hv.drew)) hm1')).mono ?_; rintro e wv ⟨rfl, hbv⟩; obtain ⟨hv, c0, c1, x0⟩ : Below wr.heap.size wr wv ∧ wv.cell? ⟨w.heap.size, 0, none⟩ = some (.int .i64 (W.length : Int)) ∧ wv.cell? ⟨w.heap.size, 1, none⟩ = some (.slice A W.length c) ∧ wv.cell? ⟨gf, left, none⟩ = some (.int .i64 (eb : Int)) := (by first | exact ar_next ⟨hv, c0, c1, x0⟩ hbv | exact ar_next ⟨hv.drew, c0, c1, x0⟩ hbv)))
            all_goals
              have hs9 := hbq.size
              have HFV := Lib.hid (HOFQ.out.below hv (by omega))
              have HMV := Lib.hid (HOMQ.out.below hv (by omega))
              have HCV := Lib.hid (HOCQ.out.below hv hzq)
              have hX2 := (hv.cell (p := ⟨gm, left, none⟩) (show gm < wr.heap.size by omega)).trans hX1
              have hkb : k < (zi (bestL W k) l m).length := by rw [zi_length, bestL_length]; omega
              obtain ⟨g, e, _, _, y0, yf0⟩ := HFV.out.int (k := k) hkb
              simp only [Option.some.injEq, Addr.mk.injEq, and_true] at e
              subst e
              rw [zi_k _ _ _ k (bestL_length W k).symm] at y0
              have hkw : k < (zi (waysL W k) (n : Int) m).length := by rw [zi_length, waysL_length]; omega
              obtain ⟨g, e, _, _, y1, yf1⟩ := HMV.out.int (k := k) hkw
              simp only [Option.some.injEq, Addr.mk.injEq, and_true] at e
              subst e
              rw [zi_k _ _ _ k (waysL_length W k).symm] at y1
              have HBV := Lib.hid (belowB hbq hm1' hv)
              have hz9 : wl.heap.size ≤ wv.heap.size := Nat.le_trans hzq hv.size
              have hfo : gf < wo.heap.size := by have := hb.size; omega
              have hmo : gm < wo.heap.size := by have := hb.size; omega
              have hd1 : gm < gf ∨ gf + 1 ≤ gm := by omega
              have hd2 : gf < gm ∨ gm + 1 ≤ gf := by omega
              have EN : IntKind.i64.wrap ((n : Int) + (ew : Int)) = ((n + ew : Nat) : Int) := by rw [IntKind.wrap_i64]; omega
              have HEN := Lib.hid EN
              have q1 := (HFV.out.set k (.int .i64 ((eb + z : Nat) : Int))).setCell (p := ⟨gm, k, none⟩) hd1 (.int .i64 (ew : Int))
              rw [zi_set _ _ _ _ k (bestL_length W k).symm] at q1
              have q2 := (HMV.out.setCell (p := ⟨gf, k, none⟩) hd2 (.int .i64 ((eb + z : Nat) : Int))).set k (.int .i64 (ew : Int))
              rw [zi_set _ _ _ _ k (waysL_length W k).symm] at q2
              have q3 := (HCV.out.setCell (p := ⟨gf, k, none⟩) (Or.inl hfo) (.int .i64 ((eb + z : Nat) : Int))).setCell (p := ⟨gm, k, none⟩) (Or.inl hmo) (.int .i64 (ew : Int))
              have q4 := (HBV.out.setCell (p := ⟨gf, k, none⟩) hf1 (.int .i64 ((eb + z : Nat) : Int))).setCell (p := ⟨gm, k, none⟩) hm1 (.int .i64 (ew : Int))
              have s1 := HFV.out.setCell (p := ⟨gm, k, none⟩) hd1 (.int .i64 ((n + ew : Nat) : Int))
              have s2 := HMV.out.set k (.int .i64 ((n + ew : Nat) : Int))
              rw [zi_set _ _ _ _ k (waysL_length W k).symm] at s2
              have s3 := HCV.out.setCell (p := ⟨gm, k, none⟩) (Or.inl hmo) (.int .i64 ((n + ew : Nat) : Int))
              have s4 := HBV.out.setCell (p := ⟨gm, k, none⟩) hm1 (.int .i64 ((n + ew : Nat) : Int))
              have Q1 := Lib.hid q1
              have Q2 := Lib.hid q2
              have Q3 := Lib.hid q3
              have Q4 := Lib.hid q4
              have S1 := Lib.hid s1
              have S2 := Lib.hid s2
              have S3 := Lib.hid s3
              have S4 := Lib.hid s4
              have hke : k < 256 := by omega
              clear q1 q2 q3 q4 s1 s2 s3 s4 hv hbv c0 c1 x0 hX1 hkb hkw E0 hcs HFC HEB HSB HSTS HM HMM HML HOFQ HOMQ HOCQ hbq hb hbX EN
              by_cases ca : l < 0
              · have HSx := Lib.hid (HS.out.trans (if_pos (Or.inl ca)))
                clear HS
                go_wp2
                go_roundw
                case rel => exact ⟨j + 1, by omega, by go_num, by rw [HSx.out]; exact Q1.out, by rw [HSx.out]; exact Q2.out, Q3.out, Q4.out, by simp; omega⟩
                case measure => simp [intOf]; omega
              · by_cases cb : ((eb + z : Nat) : Int) < l
                · have HSx := Lib.hid (HS.out.trans (if_pos (Or.inr cb)))
                  have cb' : (eb : Int) + (z : Int) < l := by omega
                  clear HS
                  go_wp2
                  go_roundw
                  case rel => exact ⟨j + 1, by omega, by go_num, by rw [HSx.out]; exact Q1.out, by rw [HSx.out]; exact Q2.out, Q3.out, Q4.out, by simp; omega⟩
                  case measure => simp [intOf]; omega
                · by_cases cc : ((eb + z : Nat) : Int) = l
                  · have HSx := Lib.hid (HS.out.trans ((if_neg (by rintro (h | h); exact ca h; exact cb h)).trans (if_pos cc)))
                    have cb' : ¬ (eb : Int) + (z : Int) < l := by omega
                    have e3 : (((eb + z : Nat) : Int) == l) = true := by rw [beq_iff_eq]; omega
                    have e4 : (((eb : Int) + (z : Int)) == l) = true := by rw [beq_iff_eq]; omega
                    have EN := HEN.out
                    clear HS cc
                    go_wp2
                    go_region
                    all_goals
                      go_wp2
                      go_roundw
                      case rel => exact ⟨j + 1, by omega, by go_num, by rw [HSx.out]; exact S1.out, by rw [HSx.out]; exact S2.out, S3.out, (by first | exact S4.out | exact S4.out.drew), by simp; omega⟩
                      case measure => simp [intOf]; omega
                  · have HSx := Lib.hid (HS.out.trans ((if_neg (by rintro (h | h); exact ca h; exact cb h)).trans (if_neg cc)))
                    have cb' : ¬ (eb : Int) + (z : Int) < l := by omega
                    have e3 : (((eb + z : Nat) : Int) == l) = false := by rw [beq_eq_false_iff_ne]; omega
                    have e4 : (((eb : Int) + (z : Int)) == l) = false := by rw [beq_eq_false_iff_ne]; omega
                    clear HS cc
                    go_wp2
                    go_roundw
                    case rel => exact ⟨j + 1, by omega, by go_num, by rw [HSx.out]; exact HFV.out, by rw [HSx.out]; exact HMV.out, HCV.out, HBV.out, hz9⟩
                    case measure => simp [intOf]; omega
          · obtain rfl : j = (mem 8 k).length := by omega
            have hpos : 0 < (mem 8 k).length := by
              rw [mem_length]
              have := pc_zero k (by omega)
              omega
            obtain ⟨b1, b2, b3, b4⟩ := HSB.out _ (Nat.le_refl _)
            have e1 : (stK W (tbl W k) k (mem 8 k).length).1 = (((ent W k).1 : Nat) : Int) := by unfold ent rowT; rw [if_neg (by omega)]; exact (Int.toNat_of_nonneg (b3 hpos)).symm
            have e2 : (stK W (tbl W k) k (mem 8 k).length).2 = (ent W k).2 := by unfold ent rowT; rw [if_neg (by omega)]
            have em : m = 2 ^ W.length - (k + 1) := by have := HMK.out; omega
            rw [e1, zi_end, ← bestL_succ, em] at hof
            rw [e2, zi_end, ← waysL_succ, em] at hom
            have HE1 := Lib.hid hof
            have HE2 := Lib.hid hom
            have hlj' : ¬ ((mem 8 k).length : Int) < ((mem 8 k).length : Int) := by omega
            clear hof hom hmk hlj hj hpos b1 b2 b3 b4 e1 e2 em HMK HSB HSTS HEB HML HMM HM hzl hzr hzq hbX hb
            generalize hlen : (mem 8 k).length = len at *
            clear hlen
            go_wp2
            go_roundw
            case rel => exact ⟨k + 1, by omega, by omega, by go_num, HE1.out, HE2.out, hbq⟩
            case measure => simp [intOf]; omega
      · have hlt' : ¬ (k : Int) < 2 ^ W.length := by have := HPN.out; omega
        have EK := Lib.hid (show k = 2 ^ W.length by omega)
        have hR1 : Row wr wr.heap.size (some ⟨gf, 0, none⟩) (ints (casts (bestL W k))) := by
          have := HOF.out.row
          rw [show 2 ^ W.length - k = 0 by omega] at this
          have h9 := hb.size
          simpa [zl] using this.mono (by omega)
        have hR2 : Row wr wr.heap.size (some ⟨gm, 0, none⟩) (ints (casts (waysL W k))) := by
          have := HOM.out.row
          rw [show 2 ^ W.length - k = 0 by omega] at this
          have h9 := hb.size
          simpa [zl] using this.mono (by omega)
        go_wp2
        refine bodyPost_ret (v := .tuple #[.slice (some ⟨gf, 0, none⟩) (2 ^ W.length) (2 ^ W.length), .slice (some ⟨gm, 0, none⟩) (2 ^ W.length) (2 ^ W.length)]) (by simp [results, Try.results73, go_sem]) rfl ?_
        rw [EK.out] at hR1 hR2
        exact ⟨some ⟨gf, 0, none⟩, 2 ^ W.length, some ⟨gm, 0, none⟩, ⟨2 ^ W.length, rfl⟩, hR1, hR2, hbw.trans (hb.mono (by omega))⟩
end Go.Proofs.Ytkdfjkocfejfjaa
