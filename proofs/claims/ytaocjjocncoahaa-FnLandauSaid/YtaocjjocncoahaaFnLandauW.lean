/- The law FnLandau, walked (printed by tools/land.py): it returns true. -/
import Derived.Test.YtaocjjocncoahaaLanF
import Derived.Test.YtaocjjocncoahaaMg8
import Derived.Test.YtaocjjocncoahaaMg9
import Derived.Test.YtaocjjocncoahaaRealI
namespace Go.Proofs.Ytaocjjocncoahaa
open Go.RowKit

theorem same_any (A : Option Addr) (c : Nat) (A' : Option Addr) (c' : Nat) (zs : List Int) (w : World) (h : Row w w.heap.size A (ints zs)) (h' : Row w w.heap.size A' (ints zs)) (hl : zs.length ≤ 1099511627776) :
    Calls Try.prog 21 #[.slice A zs.length c, .slice A' zs.length c'] w fun e w' => e = .returned (.bool true) ∧ Below w.heap.size w w' := by
  go_enter Try.func21, Try.ntmps21
  go_wp2
  go_loopw [14] (fun i wr => ∃ k : Nat, k ≤ zs.length ∧ i = .int .i64 (k : Int) ∧ Below w.heap.size w wr) (fun i _ => zs.length - (intOf i).toNat)
  case atStart => exact ⟨0, Nat.zero_le _, rfl, Below.refl _ _⟩
  case round =>
    obtain ⟨k, hk, rfl, hb⟩ := hrel
    by_cases hlt : k < zs.length
    · obtain ⟨b1, o1, rfl, _, hc1⟩ := (h.below hb (Nat.le_refl _)).int hlt
      obtain ⟨b2, o2, rfl, _, hc2⟩ := (h'.below hb (Nat.le_refl _)).int hlt
      generalize zs[k] = z at *
      clear h h'
      go_wp2
      go_roundw
      case rel => exact ⟨k + 1, by omega, by go_num, hb⟩
      case measure => simp [intOf]; omega
    · obtain rfl : k = zs.length := by omega
      clear h h'
      go_wp2
      go_ret
      exact ⟨rfl, hb⟩
theorem sc_le7 {W : List Nat} (hT : IsT W) (h7 : W.length ≤ 7) (a : Nat) (ha : a < W.length) : sc W a ≤ 7 := by
  have := sc_cnt hT a
  have h2 := cntB_lt W.length a (bt W a) ha (hT.self a)
  omega
set_option maxRecDepth 20000 in
set_option maxHeartbeats 8000000 in
theorem walkFnLandau (A : Option Addr) (c : Nat) (z : List Int) (w : World) (_ : z.length ≤ c) (_ : c ≤ maxLen) (h : Row w w.heap.size A (u8s z)) (hz : ∀ x ∈ z, 0 ≤ x ∧ x ≤ 255) :
    Calls Try.prog 5 #[.slice A z.length c] w fun e w' => e = .returned (.bool true) ∧ Below w.heap.size w w' := by
  by_cases hbig : 1048576 < z.length
  · skip
    go_enter Try.func5, Try.ntmps5
    go_wp2
    go_ret
    exact ⟨rfl, Below.refl _ _⟩
  have HMT := Lib.hid (makeTour_seven A c z w h hz (by omega))
  have HMN := Lib.hid (fun W' (hW : Below w.heap.size w W') => show Calls Try.prog 24 #[.slice A z.length c, .int .i64 20] W' fun e w' => ∃ x : Nat, x ≤ 65535 ∧ e = .returned (.int .i64 (x : Int)) ∧ Below W'.heap.size W' w' from makeNum_any A c z 20 W' (h.rowAt hW (Nat.le_refl _)) hz (by omega) (by omega))
  clear h hz
  go_enter Try.func5, Try.ntmps5
  go_wp2_with fail
  refine HMT.out.mono ?_
  rintro e w1 ⟨W, G, d, hT, h7, rfl, ho1, hb1⟩
  have F := Lib.hid (lan_facts hT h7)
  obtain ⟨n, hn⟩ : ∃ n, n = W.length := ⟨_, rfl⟩
  have hn1 := hT.h1
  have hcw : (casts W).length = n := by rw [casts_length, hn]
  have hcs : (casts (scL W)).length = n := by rw [casts_length, scL_length, hn]
  have hcr : (casts (realW W)).length = n := by rw [casts_length, F.out.reL, hn]
  have hcl : (lsq W).length = n := by rw [lsq_length, hn]
  have hck : (slacks (lsq W) n).length = n := slacks_length _ _
  obtain ⟨T, hTd⟩ : ∃ T : Int, T = (choose3 W.length : Int) - tris W W.length := ⟨_, rfl⟩
  have HSEQ := Lib.hid (fun W' hr => (by have := iSequenceOf_any G d (W.length : Int) (casts W) W' hr (by rw [hcw]; omega); rw [F.out.seq, hcw, ← hn] at this; exact this :
    Calls Try.prog 17 #[.agg #[.int .i64 (n : Int), .slice G n d]] W' (NewInts W' 3 (lsq W))))
  have HSCR := Lib.hid (fun W' hr => (by have := iScoresOf_any G d (W.length : Int) (casts W) W' hr (by rw [hcw]; omega); rw [F.out.scr, hcw, ← hn] at this; exact this :
    Calls Try.prog 18 #[.agg #[.int .i64 (n : Int), .slice G n d]] W' (NewInts W' 3 (casts (scL W)))))
  have HREA := Lib.hid (fun (B : Option Addr) (b : Nat) W' hr => (by have := iRealizeScores_any B b (casts (scL W)) W' hr (by rw [hcs]; omega); rw [F.out.reT, F.out.reR, F.out.reB, hcs, ← hn] at this; exact this :
    Calls Try.prog 10 #[.slice B n b] W' (NewTourOk W' (n : Int) (casts (realW W)) true)))
  have HSLA := Lib.hid (fun (B : Option Addr) (b : Nat) W' hr => (by have := iSlackOf_any B b (lsq W) W' hr (by rw [hcl]; omega); rw [F.out.sla, hcl, ← hn] at this; exact this :
    Calls Try.prog 19 #[.slice B n b] W' (NewInts W' 3 (slacks (lsq W) n))))
  have HLAN := Lib.hid (fun (B : Option Addr) (b : Nat) W' hr => (by have := iIsLandau_any B b (lsq W) W' hr (by rw [hcl]; omega); rw [F.out.lan, hcl] at this; exact this :
    Calls Try.prog 20 #[.slice B n b] W' fun e w' => e = .returned (.bool true) ∧ Below W'.heap.size W' w'))
  have HSCR2 := Lib.hid (fun (B : Option Addr) (b : Nat) W' hr => (by have := iScoresOf_any B b (W.length : Int) (casts (realW W)) W' hr (by rw [hcr]; omega); rw [F.out.reS, hcr, ← hn] at this; exact this :
    Calls Try.prog 18 #[.agg #[.int .i64 (n : Int), .slice B n b]] W' (NewInts W' 3 (casts (scL W)))))
  have HCTW := Lib.hid (fun W' hr => (by have := iCountTriangles_any G d (W.length : Int) (casts W) W' hr (by rw [hcw]; omega); rw [F.out.ctW, hcw, ← hTd, ← hn] at this; exact this :
    Calls Try.prog 22 #[.agg #[.int .i64 (n : Int), .slice G n d]] W' fun e w' => e = .returned (.int .i64 T) ∧ Below W'.heap.size W' w'))
  have HCTR := Lib.hid (fun (B : Option Addr) (b : Nat) W' hr => (by have := iCountTriangles_any B b (W.length : Int) (casts (realW W)) W' hr (by rw [hcr]; omega); rw [F.out.ctR, hcr, ← hTd, ← hn] at this; exact this :
    Calls Try.prog 22 #[.agg #[.int .i64 (n : Int), .slice B n b]] W' fun e w' => e = .returned (.int .i64 T) ∧ Below W'.heap.size W' w'))
  obtain ⟨M, hMd⟩ : ∃ M, M = mostTri (n : Int) := ⟨_, rfl⟩
  have HMOS := Lib.hid (fun W' => ((iMost_any (n : Int) W').mono (by rintro e w' ⟨rfl, rfl⟩; exact ⟨by rw [hMd], Below.refl _ _⟩) :
    Calls Try.prog 23 #[.int .i64 (n : Int)] W' fun e w' => e = .returned (.int .i64 M) ∧ Below W'.heap.size W' w'))
  have HSAM := Lib.hid (fun (B : Option Addr) (b : Nat) (B' : Option Addr) (b' : Nat) W' hr hr' => (by have := same_any B b B' b' (casts (scL W)) W' hr hr' (by rw [hcs]; omega); rw [hcs] at this; exact this :
    Calls Try.prog 21 #[.slice B n b, .slice B' n b'] W' fun e w' => e = .returned (.bool true) ∧ Below W'.heap.size W' w'))
  obtain ⟨Z, hZ⟩ : ∃ Z : List Int, Z = rStrongParts (W.length : Int) (casts W) := ⟨_, rfl⟩
  have HPAR := Lib.hid (fun W' hr => (by have := iStrongParts_any G d (W.length : Int) (casts W) W' hr (by rw [hcw]; omega); rw [hcw, ← hZ, ← hn] at this; exact this :
    Calls Try.prog 25 #[.agg #[.int .i64 (n : Int), .slice G n d]] W' (NewInts W' 3 Z)))
  have HZL : Hid (cntB n (fun i => slk (lsq W) (i + 1) == 0) = Z.length) := Lib.hid (by rw [hZ, hn]; exact F.out.zeros)
  have HSQU := Lib.hid (fun W' hr => (by have := iSumOfSquares_any G d (W.length : Int) (casts W) W' hr (by rw [hcw]; omega); rw [F.out.sq, hcw, ← hn] at this; exact this :
    Calls Try.prog 26 #[.agg #[.int .i64 (n : Int), .slice G n d]] W' fun e w' => e = .returned (.int .i64 (sqs W n)) ∧ Below W'.heap.size W' w'))
  obtain ⟨rg, hrg⟩ : ∃ rg, rg = rIsRegular (W.length : Int) (casts W) := ⟨_, rfl⟩
  have HREG := Lib.hid (fun W' hr => (by have := iIsRegular_any G d (W.length : Int) (casts W) W' hr (by rw [hcw]; omega); rw [← hrg, hcw, ← hn] at this; exact this :
    Calls Try.prog 27 #[.agg #[.int .i64 (n : Int), .slice G n d]] W' fun e w' => e = .returned (.bool rg) ∧ Below W'.heap.size W' w'))
  have HRG1 : Hid (rg = decide ((lsq W).getD (n - 1) 0 - (lsq W).getD 0 0 ≤ 1)) := Lib.hid (by rw [hrg, hn]; exact F.out.reg)
  have HRG2 : Hid (rg = true → T = M) := Lib.hid (by rw [hrg, hTd, hMd, hn]; exact F.out.regT)
  have HFIV := Lib.hid (fun W' => (by have := iCountSequences_any 5 W'; rw [seq_five] at this; exact this :
    Calls Try.prog 28 #[.int .i64 5] W' fun e w' => e = .returned (.int .i64 9) ∧ Below W'.heap.size W' w'))
  have HBRE := Lib.hid (fun (B : Option Addr) (b i : Nat) (hi : i < n) W' hr => (by have := iRealizeScores_any B b ((lsq W).set i ((lsq W).getD i 0 + 1)) W' hr (by rw [List.length_set, hcl]; omega); unfold tRealizeScores rRealizeScores at this; rw [(F.out.bump i (by omega)).2, List.length_set, hcl] at this; exact this :
    Calls Try.prog 10 #[.slice B n b] W' (NewTourOk W' 0 [] false)))
  have HBLA := Lib.hid (fun (B : Option Addr) (b i : Nat) (hi : i < n) W' hr => (by have := iIsLandau_any B b ((lsq W).set i ((lsq W).getD i 0 + 1)) W' hr (by rw [List.length_set, hcl]; omega); rw [(F.out.bump i (by omega)).1, List.length_set, hcl] at this; exact this :
    Calls Try.prog 20 #[.slice B n b] W' fun e w' => e = .returned (.bool false) ∧ Below W'.heap.size W' w'))
  have HNN : Hid (∀ k, k ≤ n → 0 ≤ slk (lsq W) k) := Lib.hid (by rw [hn]; exact F.out.nn)
  have HLST : Hid (slk (lsq W) n = 0) := Lib.hid (by rw [hn]; exact F.out.last)
  have HMOT : Hid (T ≤ M) := Lib.hid (by rw [hTd, hMd, hn]; exact F.out.most)
  have HSC := Lib.hid (fun a (ha : a < n) => sc_le7 hT h7 a (by omega))
  have HLB := Lib.hid (fun i (hi : i < n) => lan_bnd (lsq_lan hT) ((lsq W).getD i 0) (getD_mem (by omega)))
  have HTD : Hid (T = (choose3 n : Int) - tris W n) := Lib.hid (by rw [hTd, hn])
  have HSCL : Hid (∀ a (ha : a < (casts (scL W)).length), (casts (scL W))[a] = (sc W a : Int)) := Lib.hid (fun a ha => by
    have h2 : a < (scL W).length := by rwa [casts_length] at ha
    have e : (casts (scL W))[a] = ((scL W)[a] : Int) := by simp [casts]
    rw [e, scL_get])
  have hn7 : n ≤ 7 := by omega
  rw [← hn] at hn1
  have HCW := Lib.hid hcw
  have HCS := Lib.hid hcs
  have HCR := Lib.hid hcr
  have HCL := Lib.hid hcl
  have HCK := Lib.hid hck
  rw [← hn]
  have ho1 : Own w1 w.heap.size w1.heap.size 3 G d (ints (casts W)) := ho1
  clear hZ hrg hTd hMd F hT h7 hn hcw hcs hcr hcl hck HMT
  obtain ⟨q, hq⟩ : ∃ q, q = w1.heap.size := ⟨_, rfl⟩
  obtain ⟨w2, hw2⟩ : ∃ w2, w2 = w1.alloc (.cells #[.int .i64 (n : Int), .slice G n d] 26) := ⟨_, rfl⟩
  have hba : Below w1.heap.size w1 w2 := by rw [hw2]; go_grown
  have hz2 : w2.heap.size = q + 1 := by rw [hw2, hq]; simp
  have HX2 : Hid (BoxAt w2 q (.int .i64 (n : Int)) (.slice G n d)) := Lib.hid (by rw [hw2, hq]; exact BoxAt.made _ _ _ _)
  have HG2 := Lib.hid (ho1.row.below hba (Nat.le_refl _))
  have hb2 := below_trans hb1 hba
  have HD2 := Lib.hid (HSEQ.out w2 (HG2.out.mono (by omega)))
  have hqs : w.heap.size ≤ q := by have := hb1.size; omega
  clear ho1 hba hb1
  obtain ⟨x0, x1, _, _⟩ := HX2.out
  have HG2 := Lib.hid (HG2.out.mono (show w1.heap.size ≤ w2.heap.size by omega))
  go_wp2_with fail
  rw [← hq, ← hw2]
  clear hw2 hq
  refine HD2.out.mono ?_
  rintro e w3 ⟨L, dl, rfl, ho3, hb3⟩
  rw [HCL.out]
  obtain ⟨gl, rfl, _⟩ := ho3.int (k := 0) (by rw [HCL.out]; omega)
  have hz3 := hb3.size
  have HX3 := Lib.hid (HX2.out.below hb3)
  have HG3 := Lib.hid (HG2.out.rowAt hb3 (Nat.le_refl _))
  have HL3 := Lib.hid ho3.row
  have HBW3 := Lib.hid (below_trans hb2 hb3)
  have HD3 := Lib.hid (HSCR.out w3 HG3.out)
  obtain ⟨x0, x1, _, _⟩ := HX3.out
  clear ho3 hb3 hb2 HX2 HG2 HD2 HSEQ HSCR
  go_wp2_with fail
  refine HD3.out.mono ?_
  rintro e w4 ⟨S, ds, rfl, ho4, hb4⟩
  rw [HCS.out]
  obtain ⟨gs, rfl, _⟩ := ho4.int (k := 0) (by rw [HCS.out]; omega)
  have hz4 := hb4.size
  have HX4 := Lib.hid (HX3.out.below hb4)
  have HG4 := Lib.hid (HG3.out.rowAt hb4 (Nat.le_refl _))
  have HL4 := Lib.hid (HL3.out.rowAt hb4 (Nat.le_refl _))
  have HS4 := Lib.hid ho4.row
  have HBW4 := Lib.hid (below_trans HBW3.out hb4)
  have HD4 := Lib.hid (HREA.out _ ds w4 HS4.out)
  clear x0 x1 ho4 hb4 HX3 HG3 HL3 HBW3 HD3 HREA
  go_wp2_with fail
  refine HD4.out.mono ?_
  rintro e w5 ⟨R, dr, rfl, ho5, hb5⟩
  rw [HCR.out]
  have hz5 := hb5.size
  obtain ⟨r, hr⟩ : ∃ r, r = w5.heap.size := ⟨_, rfl⟩
  obtain ⟨w6, hw6⟩ : ∃ w6, w6 = w5.alloc (.cells #[.int .i64 (n : Int), .slice R n dr] 26) := ⟨_, rfl⟩
  have hba : Below w5.heap.size w5 w6 := by rw [hw6]; go_grown
  have hz6 : w6.heap.size = r + 1 := by rw [hw6, hr]; simp
  have hb56 := below_trans hb5 hba
  have HY6 : Hid (BoxAt w6 r (.int .i64 (n : Int)) (.slice R n dr)) := Lib.hid (by rw [hw6, hr]; exact BoxAt.made _ _ _ _)
  have HX6 := Lib.hid (HX4.out.below hb56)
  have HG6 := Lib.hid (HG4.out.rowAt hb56 (Nat.le_refl _))
  have HL6 := Lib.hid (HL4.out.rowAt hb56 (Nat.le_refl _))
  have HS6 := Lib.hid (HS4.out.rowAt hb56 (Nat.le_refl _))
  have HR6 := Lib.hid (ho5.row.rowAt hba (Nat.le_refl _))
  have HBW6 := Lib.hid (below_trans HBW4.out hb56)
  have HD6 := Lib.hid (HSLA.out _ dl w6 HL6.out)
  clear ho5 hb5 hba hb56 HX4 HG4 HL4 HS4 HBW4 HD4 HSLA
  go_wp2_with fail
  rw [← hr, ← hw6]
  clear hw6 hr
  refine HD6.out.mono ?_
  rintro e w7 ⟨K, dk, rfl, ho7, hb7⟩
  rw [HCK.out]
  obtain ⟨gk, rfl, _, _, hkc, _⟩ := ho7.int (k := n - 1) (by rw [HCK.out]; omega)
  have hkv : (slacks (lsq W) n)[n - 1]'(by rw [HCK.out]; omega) = 0 := by
    have := HLST.out
    simp only [slacks, List.getElem_map, List.getElem_range]
    rwa [show n - 1 + 1 = n by omega]
  rw [hkv] at hkc
  have hz7 := hb7.size
  have HX7 := Lib.hid (HX6.out.below hb7)
  have HY7 := Lib.hid (HY6.out.below hb7)
  have HG7 := Lib.hid (HG6.out.rowAt hb7 (Nat.le_refl _))
  have HL7 := Lib.hid (HL6.out.rowAt hb7 (Nat.le_refl _))
  have HS7 := Lib.hid (HS6.out.rowAt hb7 (Nat.le_refl _))
  have HR7 := Lib.hid (HR6.out.rowAt hb7 (Nat.le_refl _))
  have HK7 := Lib.hid ho7.row
  have HBW7 := Lib.hid (below_trans HBW6.out hb7)
  have hqz : q < w7.heap.size := HX7.out.lt
  have hrz : r < w7.heap.size := HY7.out.lt
  have HC7 := Lib.hid (fun W' (hW : Below w7.heap.size w7 W') => (⟨(HX7.out.below hW).1, (HX7.out.below hW).2.1, (HY7.out.below hW).1, (HY7.out.below hW).2.1, (hW.cell (p := ⟨gk, n - 1, none⟩) (World.block_lt_of_cell? _ _ hkc)).trans hkc⟩ :
    W'.cell? ⟨q, 0, none⟩ = some (.int .i64 (n : Int)) ∧ W'.cell? ⟨q, 1, none⟩ = some (.slice G n d) ∧ W'.cell? ⟨r, 0, none⟩ = some (.int .i64 (n : Int)) ∧ W'.cell? ⟨r, 1, none⟩ = some (.slice R n dr) ∧ W'.cell? ⟨gk, n - 1, none⟩ = some (.int .i64 0)))
  clear ho7 hb7 HX6 HY6 HG6 HL6 HS6 HR6 HBW6 HD6 hkv hkc HLST
  have hbb : Below w7.heap.size w7 w7.drew := (Below.refl _ _).drew
  obtain ⟨x0, x1, u0, u1, kc⟩ := HC7.out _ hbb
  have hti : ((n : Int) - 1).toNat = n - 1 := by omega
  have htw : IntKind.i64.wrap ((n : Int) - 1) = (n : Int) - 1 := by rw [IntKind.wrap_i64]; omega
  have ht0 : (0 : Int) ≤ (n : Int) - 1 := by omega
  have ht1 : (n : Int) - 1 < (n : Int) := by omega
  have ht2 : (1 : Int) ≤ (n : Int) := by omega
  have hmt : ¬ M < T := by have := HMOT.out; omega
  go_wp2
  refine wp_region_held_drew (S := fun w' => w'.cell? ⟨q, 0, none⟩ = some (.int .i64 (n : Int)) ∧ w'.cell? ⟨q, 1, none⟩ = some (.slice G n d) ∧ w'.cell? ⟨r, 0, none⟩ = some (.int .i64 (n : Int)) ∧ w'.cell? ⟨r, 1, none⟩ = some (.slice R n dr) ∧ w'.cell? ⟨gk, n - 1, none⟩ = some (.int .i64 0)) (by kernel_rfl) ?_ (fun hHeld => ?_)
  · (try dsimp only); exact ⟨x0, x1, u0, u1, kc⟩
  refine wpAnyH_take (i := 0) (v := ?_) rfl (by kernel_rfl) (by kernel_rfl) (by kernel_rfl) (fun _ _ _ h => h) (Or.inl ⟨by rfl, ?_⟩) (by assumption) ?_
  rotate_left
  · (intro wq hSw; (try dsimp only at hSw); (go_simp <;> with_reducible rfl))
  try simp only [Act.put, List.getElem_toArray, List.getElem_cons_zero, List.getElem_cons_succ, List.setIfInBounds_toArray, List.set_cons_zero, List.set_cons_succ]
  refine wpAnyH_ready (rs := [1]) (by kernel_rfl) (by simp) ?_
  refine AllReadyH.cons rfl (fun K hK => ?_) AllReadyH.nil
  go_simp
  (go_at_call 20; (with_reducible refine (HLAN.out _ dl _ (HL7.out.rowAt hbb (Nat.le_refl _))).mono ?_); rintro e w8 ⟨rfl, hb⟩; go_wp2_with fail)
  have hbb := below_trans hbb hb
  obtain ⟨x0, x1, u0, u1, kc⟩ := HC7.out _ hbb
  refine hK.out _ _ ?_ (fun hHeld => ?_)
  · (try dsimp only); exact ⟨x0, x1, u0, u1, kc⟩
  clear hK K
  try simp only [Act.put, List.getElem_toArray, List.getElem_cons_zero, List.getElem_cons_succ, List.setIfInBounds_toArray, List.set_cons_zero, List.set_cons_succ]
  refine wpAnyH_take (i := 2) (v := ?_) rfl (by kernel_rfl) (by kernel_rfl) (by kernel_rfl) (fun _ _ _ h => h) (Or.inl ⟨by rfl, ?_⟩) (by assumption) ?_
  rotate_left
  · (intro wq hSw; (try dsimp only at hSw); (go_simp <;> with_reducible rfl))
  try simp only [Act.put, List.getElem_toArray, List.getElem_cons_zero, List.getElem_cons_succ, List.setIfInBounds_toArray, List.set_cons_zero, List.set_cons_succ]
  refine wpAnyH_take (i := 3) (v := ?_) rfl (by kernel_rfl) (by kernel_rfl) (by kernel_rfl) (fun _ _ _ h => h) (Or.inl ⟨by rfl, ?_⟩) (by assumption) ?_
  rotate_left
  · (intro wq hSw; (try dsimp only at hSw); (go_simp <;> with_reducible rfl))
  try simp only [Act.put, List.getElem_toArray, List.getElem_cons_zero, List.getElem_cons_succ, List.setIfInBounds_toArray, List.set_cons_zero, List.set_cons_succ]
  refine wpAnyH_take (i := 4) (v := ?_) rfl (by kernel_rfl) (by kernel_rfl) (by kernel_rfl) (fun _ _ _ h => h) (Or.inl ⟨by rfl, ?_⟩) (by assumption) ?_
  rotate_left
  · (intro wq hSw; (try dsimp only at hSw); (go_simp <;> with_reducible rfl))
  try simp only [Act.put, List.getElem_toArray, List.getElem_cons_zero, List.getElem_cons_succ, List.setIfInBounds_toArray, List.set_cons_zero, List.set_cons_succ]
  refine wpAnyH_take (i := 5) (v := ?_) rfl (by kernel_rfl) (by kernel_rfl) (by kernel_rfl) (fun _ _ _ h => h) (Or.inl ⟨by rfl, ?_⟩) (by assumption) ?_
  rotate_left
  · (intro wq hSw; (try dsimp only at hSw); (go_simp <;> with_reducible rfl))
  try simp only [Act.put, List.getElem_toArray, List.getElem_cons_zero, List.getElem_cons_succ, List.setIfInBounds_toArray, List.set_cons_zero, List.set_cons_succ]
  refine wpAnyH_take (i := 6) (v := ?_) rfl (by kernel_rfl) (by kernel_rfl) (by kernel_rfl) (fun _ _ _ h => h) (Or.inl ⟨by rfl, ?_⟩) (by assumption) ?_
  rotate_left
  · (intro wq hSw; (try dsimp only at hSw); (go_simp <;> with_reducible rfl))
  try simp only [Act.put, List.getElem_toArray, List.getElem_cons_zero, List.getElem_cons_succ, List.setIfInBounds_toArray, List.set_cons_zero, List.set_cons_succ]
  refine wpAnyH_take (i := 7) (v := ?_) rfl (by kernel_rfl) (by kernel_rfl) (by kernel_rfl) (fun _ _ _ h => h) (Or.inl ⟨by rfl, ?_⟩) (by assumption) ?_
  rotate_left
  · (intro wq hSw; (try dsimp only at hSw); (go_simp <;> with_reducible rfl))
  try simp only [Act.put, List.getElem_toArray, List.getElem_cons_zero, List.getElem_cons_succ, List.setIfInBounds_toArray, List.set_cons_zero, List.set_cons_succ]
  refine wpAnyH_take (i := 8) (v := ?_) rfl (by kernel_rfl) (by kernel_rfl) (by kernel_rfl) (fun _ _ _ h => h) (Or.inl ⟨by rfl, ?_⟩) (by assumption) ?_
  rotate_left
  · (intro wq hSw; (try dsimp only at hSw); (go_simp <;> with_reducible rfl))
  try simp only [Act.put, List.getElem_toArray, List.getElem_cons_zero, List.getElem_cons_succ, List.setIfInBounds_toArray, List.set_cons_zero, List.set_cons_succ]
  refine wpAnyH_take (i := 10) (v := ?_) rfl (by kernel_rfl) (by kernel_rfl) (by kernel_rfl) (fun _ _ _ h => h) (Or.inl ⟨by rfl, ?_⟩) (by assumption) ?_
  rotate_left
  · (intro wq hSw; (try dsimp only at hSw); (go_simp <;> with_reducible rfl))
  try simp only [Act.put, List.getElem_toArray, List.getElem_cons_zero, List.getElem_cons_succ, List.setIfInBounds_toArray, List.set_cons_zero, List.set_cons_succ]
  refine wpAnyH_ready (rs := [9]) (by kernel_rfl) (by simp) ?_
  refine AllReadyH.cons rfl (fun K hK => ?_) AllReadyH.nil
  go_simp
  (go_at_call 18; (with_reducible refine (HSCR2.out R dr _ (HR7.out.rowAt hbb (Nat.le_refl _))).mono ?_); rintro e w9 ⟨S2, ds2, rfl, ho9, hb⟩; rw [HCS.out]; go_wp2_with fail)
  have HS9 := Lib.hid ho9.row
  have hbb := below_trans hbb hb
  obtain ⟨x0, x1, u0, u1, kc⟩ := HC7.out _ hbb
  clear ho9
  refine hK.out _ _ ?_ (fun hHeld => ?_)
  · (try dsimp only); exact ⟨x0, x1, u0, u1, kc⟩
  clear hK K
  try simp only [Act.put, List.getElem_toArray, List.getElem_cons_zero, List.getElem_cons_succ, List.setIfInBounds_toArray, List.set_cons_zero, List.set_cons_succ]
  refine wpAnyH_ready (rs := [11]) (by kernel_rfl) (by simp) ?_
  refine AllReadyH.cons rfl (fun K hK => ?_) AllReadyH.nil
  go_simp
  (go_at_call 21; (with_reducible refine (HSAM.out S2 ds2 _ ds _ HS9.out (HS7.out.rowAt hbb (Nat.le_refl _))).mono ?_); rintro e w10 ⟨rfl, hb⟩; go_wp2_with fail)
  have hbb := below_trans hbb hb
  obtain ⟨x0, x1, u0, u1, kc⟩ := HC7.out _ hbb
  refine hK.out _ _ ?_ (fun hHeld => ?_)
  · (try dsimp only); exact ⟨x0, x1, u0, u1, kc⟩
  clear hK K
  try simp only [Act.put, List.getElem_toArray, List.getElem_cons_zero, List.getElem_cons_succ, List.setIfInBounds_toArray, List.set_cons_zero, List.set_cons_succ]
  refine wpAnyH_take (i := 12) (v := ?_) rfl (by kernel_rfl) (by kernel_rfl) (by kernel_rfl) (fun _ _ _ h => h) (Or.inl ⟨by rfl, ?_⟩) (by assumption) ?_
  rotate_left
  · (intro wq hSw; (try dsimp only at hSw); (go_simp <;> with_reducible rfl))
  try simp only [Act.put, List.getElem_toArray, List.getElem_cons_zero, List.getElem_cons_succ, List.setIfInBounds_toArray, List.set_cons_zero, List.set_cons_succ]
  refine wpAnyH_take (i := 13) (v := ?_) rfl (by kernel_rfl) (by kernel_rfl) (by kernel_rfl) (fun _ _ _ h => h) (Or.inl ⟨by rfl, ?_⟩) (by assumption) ?_
  rotate_left
  · (intro wq hSw; (try dsimp only at hSw); (go_simp <;> with_reducible rfl))
  try simp only [Act.put, List.getElem_toArray, List.getElem_cons_zero, List.getElem_cons_succ, List.setIfInBounds_toArray, List.set_cons_zero, List.set_cons_succ]
  refine wpAnyH_take (i := 14) (v := ?_) rfl (by kernel_rfl) (by kernel_rfl) (by kernel_rfl) (fun _ _ _ h => h) (Or.inl ⟨by rfl, ?_⟩) (by assumption) ?_
  rotate_left
  · (intro wq hSw; (try dsimp only at hSw); (go_simp <;> with_reducible rfl))
  try simp only [Act.put, List.getElem_toArray, List.getElem_cons_zero, List.getElem_cons_succ, List.setIfInBounds_toArray, List.set_cons_zero, List.set_cons_succ]
  refine wpAnyH_take (i := 15) (v := ?_) rfl (by kernel_rfl) (by kernel_rfl) (by kernel_rfl) (fun _ _ _ h => h) (Or.inl ⟨by rfl, ?_⟩) (by assumption) ?_
  rotate_left
  · (intro wq hSw; (try dsimp only at hSw); (go_simp <;> with_reducible rfl))
  try simp only [Act.put, List.getElem_toArray, List.getElem_cons_zero, List.getElem_cons_succ, List.setIfInBounds_toArray, List.set_cons_zero, List.set_cons_succ]
  refine wpAnyH_take (i := 16) (v := ?_) rfl (by kernel_rfl) (by kernel_rfl) (by kernel_rfl) (fun _ _ _ h => h) (Or.inl ⟨by rfl, ?_⟩) (by assumption) ?_
  rotate_left
  · (intro wq hSw; (try dsimp only at hSw); (go_simp <;> with_reducible rfl))
  try simp only [Act.put, List.getElem_toArray, List.getElem_cons_zero, List.getElem_cons_succ, List.setIfInBounds_toArray, List.set_cons_zero, List.set_cons_succ]
  refine wpAnyH_take (i := 17) (v := ?_) rfl (by kernel_rfl) (by kernel_rfl) (by kernel_rfl) (fun _ _ _ h => h) (Or.inl ⟨by rfl, ?_⟩) (by assumption) ?_
  rotate_left
  · (intro wq hSw; (try dsimp only at hSw); (go_simp <;> with_reducible rfl))
  try simp only [Act.put, List.getElem_toArray, List.getElem_cons_zero, List.getElem_cons_succ, List.setIfInBounds_toArray, List.set_cons_zero, List.set_cons_succ]
  refine wpAnyH_take (i := 18) (v := ?_) rfl (by kernel_rfl) (by kernel_rfl) (by kernel_rfl) (fun _ _ _ h => h) (Or.inl ⟨by rfl, ?_⟩) (by assumption) ?_
  rotate_left
  · (intro wq hSw; (try dsimp only at hSw); (go_simp <;> with_reducible rfl))
  try simp only [Act.put, List.getElem_toArray, List.getElem_cons_zero, List.getElem_cons_succ, List.setIfInBounds_toArray, List.set_cons_zero, List.set_cons_succ]
  refine wpAnyH_take (i := 19) (v := ?_) rfl (by kernel_rfl) (by kernel_rfl) (by kernel_rfl) (fun _ _ _ h => h) (Or.inl ⟨by rfl, ?_⟩) (by assumption) ?_
  rotate_left
  · (intro wq hSw; (try dsimp only at hSw); (go_simp <;> with_reducible rfl))
  try simp only [Act.put, List.getElem_toArray, List.getElem_cons_zero, List.getElem_cons_succ, List.setIfInBounds_toArray, List.set_cons_zero, List.set_cons_succ]
  refine wpAnyH_take (i := 20) (v := ?_) rfl (by kernel_rfl) (by kernel_rfl) (by kernel_rfl) (fun _ _ _ h => h) (Or.inl ⟨by rfl, ?_⟩) (by assumption) ?_
  rotate_left
  · (intro wq hSw; (try dsimp only at hSw); (go_simp <;> with_reducible rfl))
  try simp only [Act.put, List.getElem_toArray, List.getElem_cons_zero, List.getElem_cons_succ, List.setIfInBounds_toArray, List.set_cons_zero, List.set_cons_succ]
  refine wpAnyH_take (i := 21) (v := ?_) rfl (by kernel_rfl) (by kernel_rfl) (by kernel_rfl) (fun _ _ _ h => h) (Or.inl ⟨by rfl, ?_⟩) (by assumption) ?_
  rotate_left
  · (intro wq hSw; (try dsimp only at hSw); (go_simp <;> with_reducible rfl))
  try simp only [Act.put, List.getElem_toArray, List.getElem_cons_zero, List.getElem_cons_succ, List.setIfInBounds_toArray, List.set_cons_zero, List.set_cons_succ]
  refine wpAnyH_take (i := 22) (v := ?_) rfl (by kernel_rfl) (by kernel_rfl) (by kernel_rfl) (fun _ _ _ h => h) (Or.inl ⟨by rfl, ?_⟩) (by assumption) ?_
  rotate_left
  · (intro wq hSw; (try dsimp only at hSw); (go_simp <;> with_reducible rfl))
  try simp only [Act.put, List.getElem_toArray, List.getElem_cons_zero, List.getElem_cons_succ, List.setIfInBounds_toArray, List.set_cons_zero, List.set_cons_succ]
  refine wpAnyH_take (i := 23) (v := ?_) rfl (by kernel_rfl) (by kernel_rfl) (by kernel_rfl) (fun _ _ _ h => h) (Or.inl ⟨by rfl, ?_⟩) (by assumption) ?_
  rotate_left
  · (intro wq hSw; (try dsimp only at hSw); (go_simp <;> with_reducible rfl))
  try simp only [Act.put, List.getElem_toArray, List.getElem_cons_zero, List.getElem_cons_succ, List.setIfInBounds_toArray, List.set_cons_zero, List.set_cons_succ]
  refine wpAnyH_take (i := 24) (v := ?_) rfl (by kernel_rfl) (by kernel_rfl) (by kernel_rfl) (fun _ _ _ h => h) (Or.inl ⟨by rfl, ?_⟩) (by assumption) ?_
  rotate_left
  · (intro wq hSw; (try dsimp only at hSw); (go_simp <;> with_reducible rfl))
  try simp only [Act.put, List.getElem_toArray, List.getElem_cons_zero, List.getElem_cons_succ, List.setIfInBounds_toArray, List.set_cons_zero, List.set_cons_succ]
  refine wpAnyH_take (i := 25) (v := ?_) rfl (by kernel_rfl) (by kernel_rfl) (by kernel_rfl) (fun _ _ _ h => h) (Or.inl ⟨by rfl, ?_⟩) (by assumption) ?_
  rotate_left
  · (intro wq hSw; (try dsimp only at hSw); (go_simp <;> with_reducible rfl))
  try simp only [Act.put, List.getElem_toArray, List.getElem_cons_zero, List.getElem_cons_succ, List.setIfInBounds_toArray, List.set_cons_zero, List.set_cons_succ]
  refine wpAnyH_take (i := 26) (v := ?_) rfl (by kernel_rfl) (by kernel_rfl) (by kernel_rfl) (fun _ _ _ h => h) (Or.inl ⟨by rfl, ?_⟩) (by assumption) ?_
  rotate_left
  · (intro wq hSw; (try dsimp only at hSw); (go_simp <;> with_reducible rfl))
  try simp only [Act.put, List.getElem_toArray, List.getElem_cons_zero, List.getElem_cons_succ, List.setIfInBounds_toArray, List.set_cons_zero, List.set_cons_succ]
  refine wpAnyH_take (i := 27) (v := ?_) rfl (by kernel_rfl) (by kernel_rfl) (by kernel_rfl) (fun _ _ _ h => h) (Or.inl ⟨by rfl, ?_⟩) (by assumption) ?_
  rotate_left
  · (intro wq hSw; (try dsimp only at hSw); (go_simp <;> with_reducible rfl))
  try simp only [Act.put, List.getElem_toArray, List.getElem_cons_zero, List.getElem_cons_succ, List.setIfInBounds_toArray, List.set_cons_zero, List.set_cons_succ]
  refine wpAnyH_take (i := 28) (v := ?_) rfl (by kernel_rfl) (by kernel_rfl) (by kernel_rfl) (fun _ _ _ h => h) (Or.inl ⟨by rfl, ?_⟩) (by assumption) ?_
  rotate_left
  · (intro wq hSw; (try dsimp only at hSw); (go_simp <;> with_reducible rfl))
  try simp only [Act.put, List.getElem_toArray, List.getElem_cons_zero, List.getElem_cons_succ, List.setIfInBounds_toArray, List.set_cons_zero, List.set_cons_succ]
  refine wpAnyH_take (i := 29) (v := ?_) rfl (by kernel_rfl) (by kernel_rfl) (by kernel_rfl) (fun _ _ _ h => h) (Or.inl ⟨by rfl, ?_⟩) (by assumption) ?_
  rotate_left
  · (intro wq hSw; (try dsimp only at hSw); (go_simp <;> with_reducible rfl))
  try simp only [Act.put, List.getElem_toArray, List.getElem_cons_zero, List.getElem_cons_succ, List.setIfInBounds_toArray, List.set_cons_zero, List.set_cons_succ]
  refine wpAnyH_take (i := 31) (v := ?_) rfl (by kernel_rfl) (by kernel_rfl) (by kernel_rfl) (fun _ _ _ h => h) (Or.inl ⟨by rfl, ?_⟩) (by assumption) ?_
  rotate_left
  · (intro wq hSw; (try dsimp only at hSw); (go_simp <;> with_reducible rfl))
  try simp only [Act.put, List.getElem_toArray, List.getElem_cons_zero, List.getElem_cons_succ, List.setIfInBounds_toArray, List.set_cons_zero, List.set_cons_succ]
  refine wpAnyH_ready (rs := [30]) (by kernel_rfl) (by simp) ?_
  refine AllReadyH.cons rfl (fun K hK => ?_) AllReadyH.nil
  go_simp
  (go_at_call 22; (with_reducible refine (HCTR.out R dr _ (HR7.out.rowAt hbb (Nat.le_refl _))).mono ?_); rintro e w11 ⟨rfl, hb⟩; go_wp2_with fail)
  have hbb := below_trans hbb hb
  obtain ⟨x0, x1, u0, u1, kc⟩ := HC7.out _ hbb
  refine hK.out _ _ ?_ (fun hHeld => ?_)
  · (try dsimp only); exact ⟨x0, x1, u0, u1, kc⟩
  clear hK K
  try simp only [Act.put, List.getElem_toArray, List.getElem_cons_zero, List.getElem_cons_succ, List.setIfInBounds_toArray, List.set_cons_zero, List.set_cons_succ]
  refine wpAnyH_ready (rs := [32]) (by kernel_rfl) (by simp) ?_
  refine AllReadyH.cons rfl (fun K hK => ?_) AllReadyH.nil
  go_simp
  (go_at_call 22; (with_reducible refine (HCTW.out _ (HG7.out.rowAt hbb (Nat.le_refl _))).mono ?_); rintro e w12 ⟨rfl, hb⟩; go_wp2_with fail)
  have hbb := below_trans hbb hb
  obtain ⟨x0, x1, u0, u1, kc⟩ := HC7.out _ hbb
  refine hK.out _ _ ?_ (fun hHeld => ?_)
  · (try dsimp only); exact ⟨x0, x1, u0, u1, kc⟩
  clear hK K
  try simp only [Act.put, List.getElem_toArray, List.getElem_cons_zero, List.getElem_cons_succ, List.setIfInBounds_toArray, List.set_cons_zero, List.set_cons_succ]
  refine wpAnyH_take (i := 33) (v := ?_) rfl (by kernel_rfl) (by kernel_rfl) (by kernel_rfl) (fun _ _ _ h => h) (Or.inl ⟨by rfl, ?_⟩) (by assumption) ?_
  rotate_left
  · (intro wq hSw; (try dsimp only at hSw); (go_simp <;> with_reducible rfl))
  try simp only [Act.put, List.getElem_toArray, List.getElem_cons_zero, List.getElem_cons_succ, List.setIfInBounds_toArray, List.set_cons_zero, List.set_cons_succ]
  refine wpAnyH_take (i := 34) (v := ?_) rfl (by kernel_rfl) (by kernel_rfl) (by kernel_rfl) (fun _ _ _ h => h) (Or.inl ⟨by rfl, ?_⟩) (by assumption) ?_
  rotate_left
  · (intro wq hSw; (try dsimp only at hSw); (go_simp <;> with_reducible rfl))
  try simp only [Act.put, List.getElem_toArray, List.getElem_cons_zero, List.getElem_cons_succ, List.setIfInBounds_toArray, List.set_cons_zero, List.set_cons_succ]
  refine wpAnyH_take (i := 35) (v := ?_) rfl (by kernel_rfl) (by kernel_rfl) (by kernel_rfl) (fun _ _ _ h => h) (Or.inl ⟨by rfl, ?_⟩) (by assumption) ?_
  rotate_left
  · (intro wq hSw; (try dsimp only at hSw); (go_simp <;> with_reducible rfl))
  try simp only [Act.put, List.getElem_toArray, List.getElem_cons_zero, List.getElem_cons_succ, List.setIfInBounds_toArray, List.set_cons_zero, List.set_cons_succ]
  refine wpAnyH_take (i := 36) (v := ?_) rfl (by kernel_rfl) (by kernel_rfl) (by kernel_rfl) (fun _ _ _ h => h) (Or.inl ⟨by rfl, ?_⟩) (by assumption) ?_
  rotate_left
  · (intro wq hSw; (try dsimp only at hSw); (go_simp <;> with_reducible rfl))
  try simp only [Act.put, List.getElem_toArray, List.getElem_cons_zero, List.getElem_cons_succ, List.setIfInBounds_toArray, List.set_cons_zero, List.set_cons_succ]
  refine wpAnyH_take (i := 38) (v := ?_) rfl (by kernel_rfl) (by kernel_rfl) (by kernel_rfl) (fun _ _ _ h => h) (Or.inl ⟨by rfl, ?_⟩) (by assumption) ?_
  rotate_left
  · (intro wq hSw; (try dsimp only at hSw); (go_simp <;> with_reducible rfl))
  try simp only [Act.put, List.getElem_toArray, List.getElem_cons_zero, List.getElem_cons_succ, List.setIfInBounds_toArray, List.set_cons_zero, List.set_cons_succ]
  refine wpAnyH_ready (rs := [37]) (by kernel_rfl) (by simp) ?_
  refine AllReadyH.cons rfl (fun K hK => ?_) AllReadyH.nil
  go_simp
  (go_at_call 22; (with_reducible refine (HCTW.out _ (HG7.out.rowAt hbb (Nat.le_refl _))).mono ?_); rintro e w13 ⟨rfl, hb⟩; go_wp2_with fail)
  have hbb := below_trans hbb hb
  obtain ⟨x0, x1, u0, u1, kc⟩ := HC7.out _ hbb
  refine hK.out _ _ ?_ (fun hHeld => ?_)
  · (try dsimp only); exact ⟨x0, x1, u0, u1, kc⟩
  clear hK K
  try simp only [Act.put, List.getElem_toArray, List.getElem_cons_zero, List.getElem_cons_succ, List.setIfInBounds_toArray, List.set_cons_zero, List.set_cons_succ]
  refine wpAnyH_ready (rs := [39]) (by kernel_rfl) (by simp) ?_
  refine AllReadyH.cons rfl (fun K hK => ?_) AllReadyH.nil
  go_simp
  (go_at_call 23; (with_reducible refine (HMOS.out _).mono ?_); rintro e w14 ⟨rfl, hb⟩; go_wp2_with fail)
  have hbb := below_trans hbb hb
  obtain ⟨x0, x1, u0, u1, kc⟩ := HC7.out _ hbb
  refine hK.out _ _ ?_ (fun hHeld => ?_)
  · (try dsimp only); exact ⟨x0, x1, u0, u1, kc⟩
  clear hK K
  try simp only [Act.put, List.getElem_toArray, List.getElem_cons_zero, List.getElem_cons_succ, List.setIfInBounds_toArray, List.set_cons_zero, List.set_cons_succ]
  refine wpAnyH_take (i := 40) (v := ?_) rfl (by kernel_rfl) (by kernel_rfl) (by kernel_rfl) (fun _ _ _ h => h) (Or.inl ⟨by rfl, ?_⟩) (by assumption) ?_
  rotate_left
  · (intro wq hSw; (try dsimp only at hSw); (go_simp <;> with_reducible rfl))
  try simp only [Act.put, List.getElem_toArray, List.getElem_cons_zero, List.getElem_cons_succ, List.setIfInBounds_toArray, List.set_cons_zero, List.set_cons_succ]
  refine wpAnyH_take (i := 41) (v := ?_) rfl (by kernel_rfl) (by kernel_rfl) (by kernel_rfl) (fun _ _ _ h => h) (Or.inl ⟨by rfl, ?_⟩) (by assumption) ?_
  rotate_left
  · (intro wq hSw; (try dsimp only at hSw); (go_simp <;> with_reducible rfl))
  try simp only [Act.put, List.getElem_toArray, List.getElem_cons_zero, List.getElem_cons_succ, List.setIfInBounds_toArray, List.set_cons_zero, List.set_cons_succ]
  refine wpAnyH_done (by kernel_rfl) ?_ _
  have HB14 := Lib.hid hbb
  obtain ⟨f, hf⟩ : ∃ f : Nat → Bool, f = fun i => slk (lsq W) (i + 1) == 0 := ⟨_, rfl⟩
  have HF : Hid (∀ i, f i = (slk (lsq W) (i + 1) == 0)) := Lib.hid (fun i => by rw [hf])
  rw [← hf] at HZL
  clear hbb x0 x1 u0 u1 kc hb HS9 HLAN HSCR2 HSAM HCTR HR7 hf
  go_wp2
  go_loopw [10, 83] (fun zs i wr => ∃ k : Nat, k ≤ n ∧ i = .int .i64 (k : Int) ∧ zs = .int .i64 ((cntB k f : Nat) : Int) ∧ Hid (Below w7.heap.size w7 wr)) (fun _ i _ => n - (intOf i).toNat)
  case atStart => exact ⟨0, Nat.zero_le _, rfl, rfl, HB14⟩
  case round =>
    clear HB14
    obtain ⟨k, hk, rfl, rfl, HB⟩ := hrel
    by_cases hlt : k < n
    · obtain ⟨b1, o1, e1, _, hkc⟩ := (HK7.out.rowAt HB.out (Nat.le_refl _)).int (k := k) (by rw [HCK.out]; exact hlt)
      simp only [Option.some.injEq, Addr.mk.injEq, and_true] at e1
      obtain ⟨rfl, rfl⟩ := e1
      rw [Nat.zero_add] at hkc
      have hkv : (slacks (lsq W) n)[k]'(by rw [HCK.out]; exact hlt) = slk (lsq W) (k + 1) := by simp [slacks]
      rw [hkv] at hkc
      have hv0 := HNN.out (k + 1) (by omega)
      have hfk := HF.out k
      have HCN : Hid (cntB (k + 1) f = cntB k f + if f k = true then 1 else 0) := Lib.hid rfl
      have hcb : cntB k f ≤ 8 := by
        have h1 := cntB_le n k f (by omega)
        have h2 : ∀ m, cntB m f ≤ m := fun m => by
          induction m with
          | zero => exact Nat.le_refl _
          | succ m ih => rw [cntB]; split <;> omega
        have := h2 n
        omega
      generalize slk (lsq W) (k + 1) = v at *
      generalize cntB k f = ck at *
      generalize f k = fk at *
      have hvn : ¬ v < 0 := by omega
      cases fk with
      | true =>
        have hv2 : v = 0 := by simpa using hfk.symm
        have HC2 : Hid (cntB (k + 1) f = ck + 1) := Lib.hid (by rw [HCN.out, if_pos rfl])
        clear hkv hfk hv0 HCN
        subst hv2
        go_wp2
        go_roundw
        case rel => exact ⟨k + 1, by omega, by go_num, by rw [HC2.out]; go_num, HB⟩
        case measure => simp [intOf]; omega
      | false =>
        have hv2 : ¬ v = 0 := by simpa using hfk.symm
        have HC2 : Hid (cntB (k + 1) f = ck) := Lib.hid (by rw [HCN.out]; rfl)
        clear hkv hfk hv0 HCN
        go_wp2
        go_roundw
        case rel => exact ⟨k + 1, by omega, by go_num, by rw [HC2.out], HB⟩
        case measure => simp [intOf]; omega
    · obtain rfl : n = k := by omega
      rw [HZL.out]
      clear hlt HNN HK7 HF HZL hk
      have hbA : Below wr.heap.size wr (wr.alloc (.cells #[] 3)) := by go_grown
      have HE1 := Lib.hid (Own.made wr wr.heap.size 3 #[] (Nat.le_refl _) (by simp))
      have HL8 := Lib.hid (HL7.out.rowAt (below_trans HB.out hbA) (Nat.le_refl _))
      have hzr := HB.out.size
      have hln := HCL.out.symm
      have HLN := Lib.hid hln
      clear hln
      go_wp2_with (at_builtin; refine wpList_pushAny rfl (.tmp 94) (.tmp 95) rfl wr.heap.size (wr.heap.size + 1) _ (some ⟨wr.heap.size, 0, none⟩) (some ⟨gl, 0, none⟩) 0 0 n dl n [] (lsq W) rfl rfl rfl HLN.out (Nat.zero_add n).symm HE1.out HL8.out (by omega) (by simp) (by simp) ?_)
      intro A4 d4 w15 ho15 hg15
      obtain ⟨g4, rfl, hg4a, hg4b, _⟩ := ho15.int (k := 0) (by rw [HCL.out]; omega)
      have hb15 := below_only hbA hg15 (Nat.le_refl _) (by simp)
      have HB15 := Lib.hid (below_trans HB.out hb15)
      have HO15 := Lib.hid ho15
      have hz15 := hb15.size
      have HD15 := Lib.hid (HMN.out w15 (below_trans HBW7.out HB15.out))
      clear ho15 hg15 hb15 hbA HE1 HL8 HB
      go_wp2_with fail
      refine HD15.out.mono ?_
      rintro e w16 ⟨x, hx, rfl, hb16⟩
      have em : Int.tmod (x : Int) (n : Int) = ((x % n : Nat) : Int) := rfl
      have em2 : (x : Int) % (n : Int) = ((x % n : Nat) : Int) := by omega
      have hin : x % n < n := Nat.mod_lt _ (by omega)
      generalize x % n = i at *
      have hn0 : ¬ n = 0 := by omega
      have hz16 := hb16.size
      have HB16 := Lib.hid (below_trans HB15.out hb16)
      have HO16 := Lib.hid (HO15.out.below hb16 (Nat.le_refl _))
      obtain ⟨g', eg, _, _, hic, hif⟩ := HO16.out.int (k := i) (by rw [HCL.out]; exact hin)
      simp only [Option.some.injEq, Addr.mk.injEq, and_true] at eg
      subst eg
      have HIG := Lib.hid (getD_lt (lsq W) i 0 (by rw [HCL.out]; exact hin))
      rw [← HIG.out] at hic
      obtain ⟨v0, v7⟩ := HLB.out i hin
      have hos := HO16.out.set i (.int .i64 ((lsq W).getD i 0 + 1))
      rw [ints_setz] at hos
      have HOS := Lib.hid hos
      have HBR := Lib.hid (HBRE.out (some ⟨g4, 0, none⟩) d4 i hin)
      have HBL := Lib.hid (HBLA.out (some ⟨g4, 0, none⟩) d4 i hin)
      have hwv : IntKind.i64.wrap ((lsq W).getD i 0 + 1) = (lsq W).getD i 0 + 1 := by rw [IntKind.wrap_i64]; omega
      generalize (lsq W).getD i 0 = v at *
      generalize (lsq W).set i (v + 1) = ms at *
      clear hos hb16 HD15 HO15 HB15 HIG HBRE HBLA HMN
      go_wp2_with fail
      have hbS : Below w7.heap.size w7 (w16.setCell ⟨g4, i, none⟩ (.int .i64 (v + 1))) := HB16.out.setCell (p := ⟨g4, i, none⟩) (by show w7.heap.size ≤ g4; omega) _
      have hzS : (w16.setCell ⟨g4, i, none⟩ (.int .i64 (v + 1))).heap.size = w16.heap.size := by simp
      clear hic hif HO16
      generalize hw17 : w16.setCell ⟨g4, i, none⟩ (.int .i64 (v + 1)) = w17 at *
      clear hw17 HB16
      have HD17 := Lib.hid (HBR.out w17 (HOS.out.row.mono (by omega)))
      refine HD17.out.mono ?_
      rintro e w18 ⟨R2, dr2, rfl, _, hb18⟩
      rw [List.length_nil]
      have hz18 := hb18.size
      obtain ⟨w19, hw19⟩ : ∃ w19, w19 = w18.alloc (.cells #[.int .i64 0, .slice R2 0 dr2] 26) := ⟨_, rfl⟩
      have hba : Below w18.heap.size w18 w19 := by rw [hw19]; go_grown
      have hb1719 := below_trans hb18 hba
      have HB19 := Lib.hid (below_trans hbS hb1719)
      have HM19 := Lib.hid ((HOS.out.row.mono (show _ ≤ w17.heap.size by omega)).rowAt hb1719 (Nat.le_refl _))
      have hch := choose3_le n (by omega)
      obtain ⟨e1, e2, e3⟩ := ch3_steps n hn1 (by omega)
      generalize hnn : (n : Int) * ((n : Int) - 1) = p1 at *
      generalize hnm : p1 * ((n : Int) - 2) = p2 at *
      have P1 := Lib.hid hnn
      have P2 := Lib.hid hnm
      clear hnn hnm
      have e1' : IntKind.i64.wrap ((n : Int) * ((n : Int) - 1)) = p1 := by rw [P1.out]; exact e1
      have e2' : IntKind.i64.wrap (p1 * ((n : Int) - 2)) = p2 := by rw [P2.out]; exact e2
      have e3' : p2 / 6 = (choose3 n : Nat) := e3.2
      have e4 : 0 ≤ p2 := e3.1
      clear e1 e2 e3 hbS hb18 hba hb1719 HD17 HOS HBR
      go_wp2
      rw [← hw19]
      clear hw19 e1' e2'
      go_loopw [17, 18, 124] (fun sq ch i wr => ∃ k : Nat, k ≤ n ∧ i = .int .i64 (k : Int) ∧ sq = .int .i64 (sqs W k) ∧ ch = .int .i64 ((choose3 n : Nat) - tris W k) ∧ Hid (Below w19.heap.size w19 wr)) (fun _ _ i _ => n - (intOf i).toNat)
      case atStart => exact ⟨0, Nat.zero_le _, rfl, rfl, by (simp only [tris, sumF, Int.sub_zero]; rw [e3']), Lib.hid (Below.refl _ _)⟩
      case round =>
        clear e3' e4
        obtain ⟨k, hk, rfl, rfl, rfl, HBk⟩ := hrel
        have HBS := Lib.hid (below_trans HB19.out HBk.out)
        by_cases hlt : k < n
        · have hs := HSC.out k hlt
          obtain ⟨b1, o1, eg, _, hkc⟩ := (HS7.out.rowAt HBS.out (Nat.le_refl _)).int (k := k) (by rw [HCS.out]; exact hlt)
          simp only [Option.some.injEq, Addr.mk.injEq, and_true] at eg
          obtain ⟨rfl, rfl⟩ := eg
          rw [HSCL.out, Nat.zero_add] at hkc
          obtain ⟨b1, b2⟩ := sqs_bd W k
          obtain ⟨t1, t2⟩ := tris_bd W k
          have hc2 := choose2_le (sc W k) (by omega)
          have E := Lib.hid (show tris W (k + 1) = tris W k + (choose2 (sc W k) : Nat) from rfl)
          have E2 := Lib.hid (show sqs W (k + 1) = sqs W k + (sc W k : Int) * (sc W k : Int) from rfl)
          obtain ⟨q1, q2, q3⟩ := ch2_steps (sc W k) (by omega)
          generalize sc W k = x at *
          have m1 : IntKind.i64.wrap ((x : Int) * x) = (x : Int) * x := by
            have e : (x : Int) * x = ((x * x : Nat) : Int) := by simp
            have := Nat.mul_le_mul hs hs
            rw [e, IntKind.wrap_i64]; omega
          have m2 : IntKind.i64.wrap (sqs W k + (x : Int) * x) = sqs W (k + 1) := by
            have := sqs_bd W (k + 1)
            rw [← E2.out, IntKind.wrap_i64]; omega
          have m3 : IntKind.i64.wrap ((x : Int) - 1) = (x : Int) - 1 := by rw [IntKind.wrap_i64]; omega
          generalize hy : sqs W (k + 1) = y at *
          have HY := Lib.hid hy
          clear hy
          generalize hp : (x : Int) * ((x : Int) - 1) = p at *
          have HP := Lib.hid hp
          have q1' : IntKind.i64.wrap ((x : Int) * ((x : Int) - 1)) = p := by rw [hp]; exact q1
          clear hp q1
          go_wp2
          go_roundw
          case rel => exact ⟨k + 1, by omega, by go_num, by rw [HY.out], by rw [E.out]; exact congrArg _ (by omega), HBk⟩
          case measure => simp [intOf]; omega
        · obtain rfl : n = k := by omega
          rw [← HTD.out]
          clear hlt hk HSC HSCL HTD
          obtain ⟨b1, o1, eg, _, hca⟩ := (HL7.out.rowAt HBS.out (Nat.le_refl _)).int (k := n - 1) (by rw [HCL.out]; omega)
          simp only [Option.some.injEq, Addr.mk.injEq, and_true] at eg
          obtain ⟨rfl, rfl⟩ := eg
          obtain ⟨b1, o1, eg, _, hcb⟩ := (HL7.out.rowAt HBS.out (Nat.le_refl _)).int (k := 0) (by rw [HCL.out]; omega)
          simp only [Option.some.injEq, Addr.mk.injEq, and_true] at eg
          obtain ⟨rfl, rfl⟩ := eg
          rw [← getD_lt _ _ (0 : Int), Nat.zero_add] at hca hcb
          obtain ⟨a0, a7⟩ := HLB.out (n - 1) (by omega)
          obtain ⟨l0, l7⟩ := HLB.out 0 (by omega)
          have hrg1 := HRG1.out
          have hpos : 0 < n := by omega
          generalize (lsq W).getD (n - 1) 0 = la at *
          generalize (lsq W).getD 0 0 = lb at *
          have hlw : IntKind.i64.wrap (la - lb) = la - lb := by rw [IntKind.wrap_i64]; omega
          have HC8 := Lib.hid (fun W' (hW : Below wr.heap.size wr W') => (⟨(HX7.out.below (below_trans HBS.out hW)).1, (HX7.out.below (below_trans HBS.out hW)).2.1, (hW.cell (p := ⟨gl, n - 1, none⟩) (World.block_lt_of_cell? _ _ hca)).trans hca, (hW.cell (p := ⟨gl, 0, none⟩) (World.block_lt_of_cell? _ _ hcb)).trans hcb⟩ :
            W'.cell? ⟨q, 0, none⟩ = some (.int .i64 (n : Int)) ∧ W'.cell? ⟨q, 1, none⟩ = some (.slice G n d) ∧ W'.cell? ⟨gl, n - 1, none⟩ = some (.int .i64 la) ∧ W'.cell? ⟨gl, 0, none⟩ = some (.int .i64 lb)))
          have HG8 := Lib.hid (HG7.out.rowAt HBS.out (Nat.le_refl _))
          have HM8 := Lib.hid (HM19.out.rowAt HBk.out (Nat.le_refl _))
          have HBE := Lib.hid (below_trans HBW7.out HBS.out)
          have hbb : Below wr.heap.size wr wr.drew := (Below.refl _ _).drew
          obtain ⟨x0, x1, ca, cb⟩ := HC8.out _ hbb
          clear hca hcb HG7 HM19 HBW7 HBS HBk HB19 HL7 HS7 HX7 HY7 HC7 HRG1 HLB
          cases rg with
          | true =>
            have hle : la - lb ≤ 1 := by simpa using hrg1
            obtain rfl : T = M := HRG2.out rfl
            clear hrg1 HRG2
            go_wp2
            refine wp_region_held_drew (S := fun w' => w'.cell? ⟨q, 0, none⟩ = some (.int .i64 (n : Int)) ∧ w'.cell? ⟨q, 1, none⟩ = some (.slice G n d) ∧ w'.cell? ⟨gl, n - 1, none⟩ = some (.int .i64 la) ∧ w'.cell? ⟨gl, 0, none⟩ = some (.int .i64 lb)) (by kernel_rfl) ?_ (fun hHeld => ?_)
            · (try dsimp only); exact ⟨x0, x1, ca, cb⟩
            refine wpAnyH_take (i := 0) (v := ?_) rfl (by kernel_rfl) (by kernel_rfl) (by kernel_rfl) (fun _ _ _ h => h) (Or.inl ⟨by rfl, ?_⟩) (by assumption) ?_
            rotate_left
            · (intro wq hSw; (try dsimp only at hSw); (go_simp <;> with_reducible rfl))
            try simp only [Act.put, List.getElem_toArray, List.getElem_cons_zero, List.getElem_cons_succ, List.setIfInBounds_toArray, List.set_cons_zero, List.set_cons_succ]
            refine wpAnyH_take (i := 1) (v := ?_) rfl (by kernel_rfl) (by kernel_rfl) (by kernel_rfl) (fun _ _ _ h => h) (Or.inl ⟨by rfl, ?_⟩) (by assumption) ?_
            rotate_left
            · (intro wq hSw; (try dsimp only at hSw); (go_simp <;> with_reducible rfl))
            try simp only [Act.put, List.getElem_toArray, List.getElem_cons_zero, List.getElem_cons_succ, List.setIfInBounds_toArray, List.set_cons_zero, List.set_cons_succ]
            refine wpAnyH_ready (rs := [2]) (by kernel_rfl) (by simp) ?_
            refine AllReadyH.cons rfl (fun K hK => ?_) AllReadyH.nil
            go_simp
            (go_at_call 25; (with_reducible refine (HPAR.out _ (HG8.out.rowAt hbb (Nat.le_refl _))).mono ?_); rintro e w21 ⟨PZ, dz, rfl, _, hb⟩; go_wp2_with fail)
            have hbb := below_trans hbb hb
            obtain ⟨x0, x1, ca, cb⟩ := HC8.out _ hbb
            refine hK.out _ _ ?_ (fun hHeld => ?_)
            · (try dsimp only); exact ⟨x0, x1, ca, cb⟩
            clear hK K
            try simp only [Act.put, List.getElem_toArray, List.getElem_cons_zero, List.getElem_cons_succ, List.setIfInBounds_toArray, List.set_cons_zero, List.set_cons_succ]
            refine wpAnyH_take (i := 3) (v := ?_) rfl (by kernel_rfl) (by kernel_rfl) (by kernel_rfl) (fun _ _ _ h => h) (Or.inl ⟨by rfl, ?_⟩) (by assumption) ?_
            rotate_left
            · (intro wq hSw; (try dsimp only at hSw); (go_simp <;> with_reducible rfl))
            try simp only [Act.put, List.getElem_toArray, List.getElem_cons_zero, List.getElem_cons_succ, List.setIfInBounds_toArray, List.set_cons_zero, List.set_cons_succ]
            refine wpAnyH_take (i := 4) (v := ?_) rfl (by kernel_rfl) (by kernel_rfl) (by kernel_rfl) (fun _ _ _ h => h) (Or.inl ⟨by rfl, ?_⟩) (by assumption) ?_
            rotate_left
            · (intro wq hSw; (try dsimp only at hSw); (go_simp <;> with_reducible rfl))
            try simp only [Act.put, List.getElem_toArray, List.getElem_cons_zero, List.getElem_cons_succ, List.setIfInBounds_toArray, List.set_cons_zero, List.set_cons_succ]
            refine wpAnyH_take (i := 5) (v := ?_) rfl (by kernel_rfl) (by kernel_rfl) (by kernel_rfl) (fun _ _ _ h => h) (Or.inl ⟨by rfl, ?_⟩) (by assumption) ?_
            rotate_left
            · (intro wq hSw; (try dsimp only at hSw); (go_simp <;> with_reducible rfl))
            try simp only [Act.put, List.getElem_toArray, List.getElem_cons_zero, List.getElem_cons_succ, List.setIfInBounds_toArray, List.set_cons_zero, List.set_cons_succ]
            refine wpAnyH_take (i := 6) (v := ?_) rfl (by kernel_rfl) (by kernel_rfl) (by kernel_rfl) (fun _ _ _ h => h) (Or.inl ⟨by rfl, ?_⟩) (by assumption) ?_
            rotate_left
            · (intro wq hSw; (try dsimp only at hSw); (go_simp <;> with_reducible rfl))
            try simp only [Act.put, List.getElem_toArray, List.getElem_cons_zero, List.getElem_cons_succ, List.setIfInBounds_toArray, List.set_cons_zero, List.set_cons_succ]
            refine wpAnyH_take (i := 7) (v := ?_) rfl (by kernel_rfl) (by kernel_rfl) (by kernel_rfl) (fun _ _ _ h => h) (Or.inl ⟨by rfl, ?_⟩) (by assumption) ?_
            rotate_left
            · (intro wq hSw; (try dsimp only at hSw); (go_simp <;> with_reducible rfl))
            try simp only [Act.put, List.getElem_toArray, List.getElem_cons_zero, List.getElem_cons_succ, List.setIfInBounds_toArray, List.set_cons_zero, List.set_cons_succ]
            refine wpAnyH_take (i := 8) (v := ?_) rfl (by kernel_rfl) (by kernel_rfl) (by kernel_rfl) (fun _ _ _ h => h) (Or.inl ⟨by rfl, ?_⟩) (by assumption) ?_
            rotate_left
            · (intro wq hSw; (try dsimp only at hSw); (go_simp <;> with_reducible rfl))
            try simp only [Act.put, List.getElem_toArray, List.getElem_cons_zero, List.getElem_cons_succ, List.setIfInBounds_toArray, List.set_cons_zero, List.set_cons_succ]
            refine wpAnyH_take (i := 9) (v := ?_) rfl (by kernel_rfl) (by kernel_rfl) (by kernel_rfl) (fun _ _ _ h => h) (Or.inl ⟨by rfl, ?_⟩) (by assumption) ?_
            rotate_left
            · (intro wq hSw; (try dsimp only at hSw); (go_simp <;> with_reducible rfl))
            try simp only [Act.put, List.getElem_toArray, List.getElem_cons_zero, List.getElem_cons_succ, List.setIfInBounds_toArray, List.set_cons_zero, List.set_cons_succ]
            refine wpAnyH_take (i := 10) (v := ?_) rfl (by kernel_rfl) (by kernel_rfl) (by kernel_rfl) (fun _ _ _ h => h) (Or.inl ⟨by rfl, ?_⟩) (by assumption) ?_
            rotate_left
            · (intro wq hSw; (try dsimp only at hSw); (go_simp <;> with_reducible rfl))
            try simp only [Act.put, List.getElem_toArray, List.getElem_cons_zero, List.getElem_cons_succ, List.setIfInBounds_toArray, List.set_cons_zero, List.set_cons_succ]
            refine wpAnyH_ready (rs := [11]) (by kernel_rfl) (by simp) ?_
            refine AllReadyH.cons rfl (fun K hK => ?_) AllReadyH.nil
            go_simp
            (go_at_call 20; (with_reducible refine (HBL.out _ (HM8.out.rowAt hbb (Nat.le_refl _))).mono ?_); rintro e w22 ⟨rfl, hb⟩; go_wp2_with fail)
            have hbb := below_trans hbb hb
            obtain ⟨x0, x1, ca, cb⟩ := HC8.out _ hbb
            refine hK.out _ _ ?_ (fun hHeld => ?_)
            · (try dsimp only); exact ⟨x0, x1, ca, cb⟩
            clear hK K
            try simp only [Act.put, List.getElem_toArray, List.getElem_cons_zero, List.getElem_cons_succ, List.setIfInBounds_toArray, List.set_cons_zero, List.set_cons_succ]
            refine wpAnyH_take (i := 12) (v := ?_) rfl (by kernel_rfl) (by kernel_rfl) (by kernel_rfl) (fun _ _ _ h => h) (Or.inl ⟨by rfl, ?_⟩) (by assumption) ?_
            rotate_left
            · (intro wq hSw; (try dsimp only at hSw); (go_simp <;> with_reducible rfl))
            try simp only [Act.put, List.getElem_toArray, List.getElem_cons_zero, List.getElem_cons_succ, List.setIfInBounds_toArray, List.set_cons_zero, List.set_cons_succ]
            refine wpAnyH_take (i := 13) (v := ?_) rfl (by kernel_rfl) (by kernel_rfl) (by kernel_rfl) (fun _ _ _ h => h) (Or.inl ⟨by rfl, ?_⟩) (by assumption) ?_
            rotate_left
            · (intro wq hSw; (try dsimp only at hSw); (go_simp <;> with_reducible rfl))
            try simp only [Act.put, List.getElem_toArray, List.getElem_cons_zero, List.getElem_cons_succ, List.setIfInBounds_toArray, List.set_cons_zero, List.set_cons_succ]
            refine wpAnyH_take (i := 14) (v := ?_) rfl (by kernel_rfl) (by kernel_rfl) (by kernel_rfl) (fun _ _ _ h => h) (Or.inl ⟨by rfl, ?_⟩) (by assumption) ?_
            rotate_left
            · (intro wq hSw; (try dsimp only at hSw); (go_simp <;> with_reducible rfl))
            try simp only [Act.put, List.getElem_toArray, List.getElem_cons_zero, List.getElem_cons_succ, List.setIfInBounds_toArray, List.set_cons_zero, List.set_cons_succ]
            refine wpAnyH_take (i := 15) (v := ?_) rfl (by kernel_rfl) (by kernel_rfl) (by kernel_rfl) (fun _ _ _ h => h) (Or.inl ⟨by rfl, ?_⟩) (by assumption) ?_
            rotate_left
            · (intro wq hSw; (try dsimp only at hSw); (go_simp <;> with_reducible rfl))
            try simp only [Act.put, List.getElem_toArray, List.getElem_cons_zero, List.getElem_cons_succ, List.setIfInBounds_toArray, List.set_cons_zero, List.set_cons_succ]
            refine wpAnyH_take (i := 16) (v := ?_) rfl (by kernel_rfl) (by kernel_rfl) (by kernel_rfl) (fun _ _ _ h => h) (Or.inl ⟨by rfl, ?_⟩) (by assumption) ?_
            rotate_left
            · (intro wq hSw; (try dsimp only at hSw); (go_simp <;> with_reducible rfl))
            try simp only [Act.put, List.getElem_toArray, List.getElem_cons_zero, List.getElem_cons_succ, List.setIfInBounds_toArray, List.set_cons_zero, List.set_cons_succ]
            refine wpAnyH_ready (rs := [17]) (by kernel_rfl) (by simp) ?_
            refine AllReadyH.cons rfl (fun K hK => ?_) AllReadyH.nil
            go_simp
            (go_at_call 26; (with_reducible refine (HSQU.out _ (HG8.out.rowAt hbb (Nat.le_refl _))).mono ?_); rintro e w23 ⟨rfl, hb⟩; go_wp2_with fail)
            have hbb := below_trans hbb hb
            obtain ⟨x0, x1, ca, cb⟩ := HC8.out _ hbb
            refine hK.out _ _ ?_ (fun hHeld => ?_)
            · (try dsimp only); exact ⟨x0, x1, ca, cb⟩
            clear hK K
            try simp only [Act.put, List.getElem_toArray, List.getElem_cons_zero, List.getElem_cons_succ, List.setIfInBounds_toArray, List.set_cons_zero, List.set_cons_succ]
            refine wpAnyH_take (i := 18) (v := ?_) rfl (by kernel_rfl) (by kernel_rfl) (by kernel_rfl) (fun _ _ _ h => h) (Or.inl ⟨by rfl, ?_⟩) (by assumption) ?_
            rotate_left
            · (intro wq hSw; (try dsimp only at hSw); (go_simp <;> with_reducible rfl))
            try simp only [Act.put, List.getElem_toArray, List.getElem_cons_zero, List.getElem_cons_succ, List.setIfInBounds_toArray, List.set_cons_zero, List.set_cons_succ]
            refine wpAnyH_take (i := 19) (v := ?_) rfl (by kernel_rfl) (by kernel_rfl) (by kernel_rfl) (fun _ _ _ h => h) (Or.inl ⟨by rfl, ?_⟩) (by assumption) ?_
            rotate_left
            · (intro wq hSw; (try dsimp only at hSw); (go_simp <;> with_reducible rfl))
            try simp only [Act.put, List.getElem_toArray, List.getElem_cons_zero, List.getElem_cons_succ, List.setIfInBounds_toArray, List.set_cons_zero, List.set_cons_succ]
            refine wpAnyH_take (i := 20) (v := ?_) rfl (by kernel_rfl) (by kernel_rfl) (by kernel_rfl) (fun _ _ _ h => h) (Or.inl ⟨by rfl, ?_⟩) (by assumption) ?_
            rotate_left
            · (intro wq hSw; (try dsimp only at hSw); (go_simp <;> with_reducible rfl))
            try simp only [Act.put, List.getElem_toArray, List.getElem_cons_zero, List.getElem_cons_succ, List.setIfInBounds_toArray, List.set_cons_zero, List.set_cons_succ]
            refine wpAnyH_take (i := 21) (v := ?_) rfl (by kernel_rfl) (by kernel_rfl) (by kernel_rfl) (fun _ _ _ h => h) (Or.inl ⟨by rfl, ?_⟩) (by assumption) ?_
            rotate_left
            · (intro wq hSw; (try dsimp only at hSw); (go_simp <;> with_reducible rfl))
            try simp only [Act.put, List.getElem_toArray, List.getElem_cons_zero, List.getElem_cons_succ, List.setIfInBounds_toArray, List.set_cons_zero, List.set_cons_succ]
            refine wpAnyH_take (i := 22) (v := ?_) rfl (by kernel_rfl) (by kernel_rfl) (by kernel_rfl) (fun _ _ _ h => h) (Or.inl ⟨by rfl, ?_⟩) (by assumption) ?_
            rotate_left
            · (intro wq hSw; (try dsimp only at hSw); (go_simp <;> with_reducible rfl))
            try simp only [Act.put, List.getElem_toArray, List.getElem_cons_zero, List.getElem_cons_succ, List.setIfInBounds_toArray, List.set_cons_zero, List.set_cons_succ]
            refine wpAnyH_ready (rs := [23]) (by kernel_rfl) (by simp) ?_
            refine AllReadyH.cons rfl (fun K hK => ?_) AllReadyH.nil
            go_simp
            (go_at_call 22; (with_reducible refine (HCTW.out _ (HG8.out.rowAt hbb (Nat.le_refl _))).mono ?_); rintro e w24 ⟨rfl, hb⟩; go_wp2_with fail)
            have hbb := below_trans hbb hb
            obtain ⟨x0, x1, ca, cb⟩ := HC8.out _ hbb
            refine hK.out _ _ ?_ (fun hHeld => ?_)
            · (try dsimp only); exact ⟨x0, x1, ca, cb⟩
            clear hK K
            try simp only [Act.put, List.getElem_toArray, List.getElem_cons_zero, List.getElem_cons_succ, List.setIfInBounds_toArray, List.set_cons_zero, List.set_cons_succ]
            refine wpAnyH_take (i := 24) (v := ?_) rfl (by kernel_rfl) (by kernel_rfl) (by kernel_rfl) (fun _ _ _ h => h) (Or.inl ⟨by rfl, ?_⟩) (by assumption) ?_
            rotate_left
            · (intro wq hSw; (try dsimp only at hSw); (go_simp <;> with_reducible rfl))
            try simp only [Act.put, List.getElem_toArray, List.getElem_cons_zero, List.getElem_cons_succ, List.setIfInBounds_toArray, List.set_cons_zero, List.set_cons_succ]
            refine wpAnyH_take (i := 25) (v := ?_) rfl (by kernel_rfl) (by kernel_rfl) (by kernel_rfl) (fun _ _ _ h => h) (Or.inl ⟨by rfl, ?_⟩) (by assumption) ?_
            rotate_left
            · (intro wq hSw; (try dsimp only at hSw); (go_simp <;> with_reducible rfl))
            try simp only [Act.put, List.getElem_toArray, List.getElem_cons_zero, List.getElem_cons_succ, List.setIfInBounds_toArray, List.set_cons_zero, List.set_cons_succ]
            refine wpAnyH_take (i := 26) (v := ?_) rfl (by kernel_rfl) (by kernel_rfl) (by kernel_rfl) (fun _ _ _ h => h) (Or.inl ⟨by rfl, ?_⟩) (by assumption) ?_
            rotate_left
            · (intro wq hSw; (try dsimp only at hSw); (go_simp <;> with_reducible rfl))
            try simp only [Act.put, List.getElem_toArray, List.getElem_cons_zero, List.getElem_cons_succ, List.setIfInBounds_toArray, List.set_cons_zero, List.set_cons_succ]
            refine wpAnyH_take (i := 27) (v := ?_) rfl (by kernel_rfl) (by kernel_rfl) (by kernel_rfl) (fun _ _ _ h => h) (Or.inl ⟨by rfl, ?_⟩) (by assumption) ?_
            rotate_left
            · (intro wq hSw; (try dsimp only at hSw); (go_simp <;> with_reducible rfl))
            try simp only [Act.put, List.getElem_toArray, List.getElem_cons_zero, List.getElem_cons_succ, List.setIfInBounds_toArray, List.set_cons_zero, List.set_cons_succ]
            refine wpAnyH_take (i := 29) (v := ?_) rfl (by kernel_rfl) (by kernel_rfl) (by kernel_rfl) (fun _ _ _ h => h) (Or.inl ⟨by rfl, ?_⟩) (by assumption) ?_
            rotate_left
            · (intro wq hSw; (try dsimp only at hSw); (go_simp <;> with_reducible rfl))
            try simp only [Act.put, List.getElem_toArray, List.getElem_cons_zero, List.getElem_cons_succ, List.setIfInBounds_toArray, List.set_cons_zero, List.set_cons_succ]
            refine wpAnyH_take (i := 30) (v := ?_) rfl (by kernel_rfl) (by kernel_rfl) (by kernel_rfl) (fun _ _ _ h => h) (Or.inl ⟨by rfl, ?_⟩) (by assumption) ?_
            rotate_left
            · (intro wq hSw; (try dsimp only at hSw); (go_simp <;> with_reducible rfl))
            try simp only [Act.put, List.getElem_toArray, List.getElem_cons_zero, List.getElem_cons_succ, List.setIfInBounds_toArray, List.set_cons_zero, List.set_cons_succ]
            refine wpAnyH_take (i := 31) (v := ?_) rfl (by kernel_rfl) (by kernel_rfl) (by kernel_rfl) (fun _ _ _ h => h) (Or.inl ⟨by rfl, ?_⟩) (by assumption) ?_
            rotate_left
            · (intro wq hSw; (try dsimp only at hSw); (go_simp <;> with_reducible rfl))
            try simp only [Act.put, List.getElem_toArray, List.getElem_cons_zero, List.getElem_cons_succ, List.setIfInBounds_toArray, List.set_cons_zero, List.set_cons_succ]
            refine wpAnyH_take (i := 32) (v := ?_) rfl (by kernel_rfl) (by kernel_rfl) (by kernel_rfl) (fun _ _ _ h => h) (Or.inl ⟨by rfl, ?_⟩) (by assumption) ?_
            rotate_left
            · (intro wq hSw; (try dsimp only at hSw); (go_simp <;> with_reducible rfl))
            try simp only [Act.put, List.getElem_toArray, List.getElem_cons_zero, List.getElem_cons_succ, List.setIfInBounds_toArray, List.set_cons_zero, List.set_cons_succ]
            refine wpAnyH_take (i := 33) (v := ?_) rfl (by kernel_rfl) (by kernel_rfl) (by kernel_rfl) (fun _ _ _ h => h) (Or.inl ⟨by rfl, ?_⟩) (by assumption) ?_
            rotate_left
            · (intro wq hSw; (try dsimp only at hSw); (go_simp <;> with_reducible rfl))
            try simp only [Act.put, List.getElem_toArray, List.getElem_cons_zero, List.getElem_cons_succ, List.setIfInBounds_toArray, List.set_cons_zero, List.set_cons_succ]
            refine wpAnyH_take (i := 34) (v := ?_) rfl (by kernel_rfl) (by kernel_rfl) (by kernel_rfl) (fun _ _ _ h => h) (Or.inl ⟨by rfl, ?_⟩) (by assumption) ?_
            rotate_left
            · (intro wq hSw; (try dsimp only at hSw); (go_simp <;> with_reducible rfl))
            try simp only [Act.put, List.getElem_toArray, List.getElem_cons_zero, List.getElem_cons_succ, List.setIfInBounds_toArray, List.set_cons_zero, List.set_cons_succ]
            refine wpAnyH_take (i := 35) (v := ?_) rfl (by kernel_rfl) (by kernel_rfl) (by kernel_rfl) (fun _ _ _ h => h) (Or.inl ⟨by rfl, ?_⟩) (by assumption) ?_
            rotate_left
            · (intro wq hSw; (try dsimp only at hSw); (go_simp <;> with_reducible rfl))
            try simp only [Act.put, List.getElem_toArray, List.getElem_cons_zero, List.getElem_cons_succ, List.setIfInBounds_toArray, List.set_cons_zero, List.set_cons_succ]
            refine wpAnyH_take (i := 36) (v := ?_) rfl (by kernel_rfl) (by kernel_rfl) (by kernel_rfl) (fun _ _ _ h => h) (Or.inl ⟨by rfl, ?_⟩) (by assumption) ?_
            rotate_left
            · (intro wq hSw; (try dsimp only at hSw); (go_simp <;> with_reducible rfl))
            try simp only [Act.put, List.getElem_toArray, List.getElem_cons_zero, List.getElem_cons_succ, List.setIfInBounds_toArray, List.set_cons_zero, List.set_cons_succ]
            refine wpAnyH_take (i := 37) (v := ?_) rfl (by kernel_rfl) (by kernel_rfl) (by kernel_rfl) (fun _ _ _ h => h) (Or.inl ⟨by rfl, ?_⟩) (by assumption) ?_
            rotate_left
            · (intro wq hSw; (try dsimp only at hSw); (go_simp <;> with_reducible rfl))
            try simp only [Act.put, List.getElem_toArray, List.getElem_cons_zero, List.getElem_cons_succ, List.setIfInBounds_toArray, List.set_cons_zero, List.set_cons_succ]
            refine wpAnyH_take (i := 38) (v := ?_) rfl (by kernel_rfl) (by kernel_rfl) (by kernel_rfl) (fun _ _ _ h => h) (Or.inl ⟨by rfl, ?_⟩) (by assumption) ?_
            rotate_left
            · (intro wq hSw; (try dsimp only at hSw); (go_simp <;> with_reducible rfl))
            try simp only [Act.put, List.getElem_toArray, List.getElem_cons_zero, List.getElem_cons_succ, List.setIfInBounds_toArray, List.set_cons_zero, List.set_cons_succ]
            refine wpAnyH_ready (rs := [28]) (by kernel_rfl) (by simp) ?_
            refine AllReadyH.cons rfl (fun K hK => ?_) AllReadyH.nil
            go_simp
            (go_at_call 27; (with_reducible refine (HREG.out _ (HG8.out.rowAt hbb (Nat.le_refl _))).mono ?_); rintro e w25 ⟨rfl, hb⟩; go_wp2_with fail)
            have hbb := below_trans hbb hb
            obtain ⟨x0, x1, ca, cb⟩ := HC8.out _ hbb
            refine hK.out _ _ ?_ (fun hHeld => ?_)
            · (try dsimp only); exact ⟨x0, x1, ca, cb⟩
            clear hK K
            try simp only [Act.put, List.getElem_toArray, List.getElem_cons_zero, List.getElem_cons_succ, List.setIfInBounds_toArray, List.set_cons_zero, List.set_cons_succ]
            refine wpAnyH_take (i := 39) (v := ?_) rfl (by kernel_rfl) (by kernel_rfl) (by kernel_rfl) (fun _ _ _ h => h) (Or.inl ⟨by rfl, ?_⟩) (by assumption) ?_
            rotate_left
            · (intro wq hSw; (try dsimp only at hSw); (go_simp <;> with_reducible rfl))
            try simp only [Act.put, List.getElem_toArray, List.getElem_cons_zero, List.getElem_cons_succ, List.setIfInBounds_toArray, List.set_cons_zero, List.set_cons_succ]
            refine wpAnyH_take (i := 40) (v := ?_) rfl (by kernel_rfl) (by kernel_rfl) (by kernel_rfl) (fun _ _ _ h => h) (Or.inl ⟨by rfl, ?_⟩) (by assumption) ?_
            rotate_left
            · (intro wq hSw; (try dsimp only at hSw); (go_simp <;> with_reducible rfl))
            try simp only [Act.put, List.getElem_toArray, List.getElem_cons_zero, List.getElem_cons_succ, List.setIfInBounds_toArray, List.set_cons_zero, List.set_cons_succ]
            refine wpAnyH_take (i := 41) (v := ?_) rfl (by kernel_rfl) (by kernel_rfl) (by kernel_rfl) (fun _ _ _ h => h) (Or.inl ⟨by rfl, ?_⟩) (by assumption) ?_
            rotate_left
            · (intro wq hSw; (try dsimp only at hSw); (go_simp <;> with_reducible rfl))
            try simp only [Act.put, List.getElem_toArray, List.getElem_cons_zero, List.getElem_cons_succ, List.setIfInBounds_toArray, List.set_cons_zero, List.set_cons_succ]
            refine wpAnyH_ready (rs := [42]) (by kernel_rfl) (by simp) ?_
            refine AllReadyH.cons rfl (fun K hK => ?_) AllReadyH.nil
            go_simp
            (go_at_call 28; (with_reducible refine (HFIV.out _).mono ?_); rintro e w26 ⟨rfl, hb⟩; go_wp2_with fail)
            have hbb := below_trans hbb hb
            obtain ⟨x0, x1, ca, cb⟩ := HC8.out _ hbb
            refine hK.out _ _ ?_ (fun hHeld => ?_)
            · (try dsimp only); exact ⟨x0, x1, ca, cb⟩
            clear hK K
            try simp only [Act.put, List.getElem_toArray, List.getElem_cons_zero, List.getElem_cons_succ, List.setIfInBounds_toArray, List.set_cons_zero, List.set_cons_succ]
            refine wpAnyH_take (i := 43) (v := ?_) rfl (by kernel_rfl) (by kernel_rfl) (by kernel_rfl) (fun _ _ _ h => h) (Or.inl ⟨by rfl, ?_⟩) (by assumption) ?_
            rotate_left
            · (intro wq hSw; (try dsimp only at hSw); (go_simp <;> with_reducible rfl))
            try simp only [Act.put, List.getElem_toArray, List.getElem_cons_zero, List.getElem_cons_succ, List.setIfInBounds_toArray, List.set_cons_zero, List.set_cons_succ]
            refine wpAnyH_take (i := 44) (v := ?_) rfl (by kernel_rfl) (by kernel_rfl) (by kernel_rfl) (fun _ _ _ h => h) (Or.inl ⟨by rfl, ?_⟩) (by assumption) ?_
            rotate_left
            · (intro wq hSw; (try dsimp only at hSw); (go_simp <;> with_reducible rfl))
            try simp only [Act.put, List.getElem_toArray, List.getElem_cons_zero, List.getElem_cons_succ, List.setIfInBounds_toArray, List.set_cons_zero, List.set_cons_succ]
            refine wpAnyH_take (i := 45) (v := ?_) rfl (by kernel_rfl) (by kernel_rfl) (by kernel_rfl) (fun _ _ _ h => h) (Or.inl ⟨by rfl, ?_⟩) (by assumption) ?_
            rotate_left
            · (intro wq hSw; (try dsimp only at hSw); (go_simp <;> with_reducible rfl))
            try simp only [Act.put, List.getElem_toArray, List.getElem_cons_zero, List.getElem_cons_succ, List.setIfInBounds_toArray, List.set_cons_zero, List.set_cons_succ]
            refine wpAnyH_take (i := 46) (v := ?_) rfl (by kernel_rfl) (by kernel_rfl) (by kernel_rfl) (fun _ _ _ h => h) (Or.inl ⟨by rfl, ?_⟩) (by assumption) ?_
            rotate_left
            · (intro wq hSw; (try dsimp only at hSw); (go_simp <;> with_reducible rfl))
            try simp only [Act.put, List.getElem_toArray, List.getElem_cons_zero, List.getElem_cons_succ, List.setIfInBounds_toArray, List.set_cons_zero, List.set_cons_succ]
            refine wpAnyH_ready (rs := [47]) (by kernel_rfl) (by simp) ?_
            refine AllReadyH.cons rfl (fun K hK => ?_) AllReadyH.nil
            go_simp
            (go_at_call 27; (with_reducible refine (HREG.out _ (HG8.out.rowAt hbb (Nat.le_refl _))).mono ?_); rintro e w27 ⟨rfl, hb⟩; go_wp2_with fail)
            have hbb := below_trans hbb hb
            obtain ⟨x0, x1, ca, cb⟩ := HC8.out _ hbb
            refine hK.out _ _ ?_ (fun hHeld => ?_)
            · (try dsimp only); exact ⟨x0, x1, ca, cb⟩
            clear hK K
            try simp only [Act.put, List.getElem_toArray, List.getElem_cons_zero, List.getElem_cons_succ, List.setIfInBounds_toArray, List.set_cons_zero, List.set_cons_succ]
            refine wpAnyH_take (i := 48) (v := ?_) rfl (by kernel_rfl) (by kernel_rfl) (by kernel_rfl) (fun _ _ _ h => h) (Or.inl ⟨by rfl, ?_⟩) (by assumption) ?_
            rotate_left
            · (intro wq hSw; (try dsimp only at hSw); (go_simp <;> with_reducible rfl))
            try simp only [Act.put, List.getElem_toArray, List.getElem_cons_zero, List.getElem_cons_succ, List.setIfInBounds_toArray, List.set_cons_zero, List.set_cons_succ]
            refine wpAnyH_take (i := 49) (v := ?_) rfl (by kernel_rfl) (by kernel_rfl) (by kernel_rfl) (fun _ _ _ h => h) (Or.inl ⟨by rfl, ?_⟩) (by assumption) ?_
            rotate_left
            · (intro wq hSw; (try dsimp only at hSw); (go_simp <;> with_reducible rfl))
            try simp only [Act.put, List.getElem_toArray, List.getElem_cons_zero, List.getElem_cons_succ, List.setIfInBounds_toArray, List.set_cons_zero, List.set_cons_succ]
            refine wpAnyH_take (i := 50) (v := ?_) rfl (by kernel_rfl) (by kernel_rfl) (by kernel_rfl) (fun _ _ _ h => h) (Or.inl ⟨by rfl, ?_⟩) (by assumption) ?_
            rotate_left
            · (intro wq hSw; (try dsimp only at hSw); (go_simp <;> with_reducible rfl))
            try simp only [Act.put, List.getElem_toArray, List.getElem_cons_zero, List.getElem_cons_succ, List.setIfInBounds_toArray, List.set_cons_zero, List.set_cons_succ]
            refine wpAnyH_take (i := 52) (v := ?_) rfl (by kernel_rfl) (by kernel_rfl) (by kernel_rfl) (fun _ _ _ h => h) (Or.inl ⟨by rfl, ?_⟩) (by assumption) ?_
            rotate_left
            · (intro wq hSw; (try dsimp only at hSw); (go_simp <;> with_reducible rfl))
            try simp only [Act.put, List.getElem_toArray, List.getElem_cons_zero, List.getElem_cons_succ, List.setIfInBounds_toArray, List.set_cons_zero, List.set_cons_succ]
            refine wpAnyH_ready (rs := [51]) (by kernel_rfl) (by simp) ?_
            refine AllReadyH.cons rfl (fun K hK => ?_) AllReadyH.nil
            go_simp
            (go_at_call 22; (with_reducible refine (HCTW.out _ (HG8.out.rowAt hbb (Nat.le_refl _))).mono ?_); rintro e w28 ⟨rfl, hb⟩; go_wp2_with fail)
            have hbb := below_trans hbb hb
            obtain ⟨x0, x1, ca, cb⟩ := HC8.out _ hbb
            refine hK.out _ _ ?_ (fun hHeld => ?_)
            · (try dsimp only); exact ⟨x0, x1, ca, cb⟩
            clear hK K
            try simp only [Act.put, List.getElem_toArray, List.getElem_cons_zero, List.getElem_cons_succ, List.setIfInBounds_toArray, List.set_cons_zero, List.set_cons_succ]
            refine wpAnyH_ready (rs := [53]) (by kernel_rfl) (by simp) ?_
            refine AllReadyH.cons rfl (fun K hK => ?_) AllReadyH.nil
            go_simp
            (go_at_call 23; (with_reducible refine (HMOS.out _).mono ?_); rintro e w29 ⟨rfl, hb⟩; go_wp2_with fail)
            have hbb := below_trans hbb hb
            obtain ⟨x0, x1, ca, cb⟩ := HC8.out _ hbb
            refine hK.out _ _ ?_ (fun hHeld => ?_)
            · (try dsimp only); exact ⟨x0, x1, ca, cb⟩
            clear hK K
            try simp only [Act.put, List.getElem_toArray, List.getElem_cons_zero, List.getElem_cons_succ, List.setIfInBounds_toArray, List.set_cons_zero, List.set_cons_succ]
            refine wpAnyH_take (i := 54) (v := ?_) rfl (by kernel_rfl) (by kernel_rfl) (by kernel_rfl) (fun _ _ _ h => h) (Or.inl ⟨by rfl, ?_⟩) (by assumption) ?_
            rotate_left
            · (intro wq hSw; (try dsimp only at hSw); (go_simp <;> with_reducible rfl))
            try simp only [Act.put, List.getElem_toArray, List.getElem_cons_zero, List.getElem_cons_succ, List.setIfInBounds_toArray, List.set_cons_zero, List.set_cons_succ]
            refine wpAnyH_take (i := 55) (v := ?_) rfl (by kernel_rfl) (by kernel_rfl) (by kernel_rfl) (fun _ _ _ h => h) (Or.inl ⟨by rfl, ?_⟩) (by assumption) ?_
            rotate_left
            · (intro wq hSw; (try dsimp only at hSw); (go_simp <;> with_reducible rfl))
            try simp only [Act.put, List.getElem_toArray, List.getElem_cons_zero, List.getElem_cons_succ, List.setIfInBounds_toArray, List.set_cons_zero, List.set_cons_succ]
            refine wpAnyH_take (i := 56) (v := ?_) rfl (by kernel_rfl) (by kernel_rfl) (by kernel_rfl) (fun _ _ _ h => h) (Or.inl ⟨by rfl, ?_⟩) (by assumption) ?_
            rotate_left
            · (intro wq hSw; (try dsimp only at hSw); (go_simp <;> with_reducible rfl))
            try simp only [Act.put, List.getElem_toArray, List.getElem_cons_zero, List.getElem_cons_succ, List.setIfInBounds_toArray, List.set_cons_zero, List.set_cons_succ]
            refine wpAnyH_take (i := 57) (v := ?_) rfl (by kernel_rfl) (by kernel_rfl) (by kernel_rfl) (fun _ _ _ h => h) (Or.inl ⟨by rfl, ?_⟩) (by assumption) ?_
            rotate_left
            · (intro wq hSw; (try dsimp only at hSw); (go_simp <;> with_reducible rfl))
            try simp only [Act.put, List.getElem_toArray, List.getElem_cons_zero, List.getElem_cons_succ, List.setIfInBounds_toArray, List.set_cons_zero, List.set_cons_succ]
            refine wpAnyH_done (by kernel_rfl) ?_ _
            go_wp2
            go_ret
            exact ⟨rfl, below_trans HBE.out hbb⟩
          | false =>
            have hle0 : ¬ la - lb ≤ 1 := fun h => by simp [h] at hrg1
            have hle : (la - lb ≤ 1) = False := eq_false hle0
            have hle2 : decide (la - lb ≤ 1) = false := decide_eq_false hle0
            clear hrg1 HRG2
            go_wp2
            refine wp_region_held_drew (S := fun w' => w'.cell? ⟨q, 0, none⟩ = some (.int .i64 (n : Int)) ∧ w'.cell? ⟨q, 1, none⟩ = some (.slice G n d) ∧ w'.cell? ⟨gl, n - 1, none⟩ = some (.int .i64 la) ∧ w'.cell? ⟨gl, 0, none⟩ = some (.int .i64 lb)) (by kernel_rfl) ?_ (fun hHeld => ?_)
            · (try dsimp only); exact ⟨x0, x1, ca, cb⟩
            refine wpAnyH_take (i := 0) (v := ?_) rfl (by kernel_rfl) (by kernel_rfl) (by kernel_rfl) (fun _ _ _ h => h) (Or.inl ⟨by rfl, ?_⟩) (by assumption) ?_
            rotate_left
            · (intro wq hSw; (try dsimp only at hSw); (go_simp <;> with_reducible rfl))
            try simp only [Act.put, List.getElem_toArray, List.getElem_cons_zero, List.getElem_cons_succ, List.setIfInBounds_toArray, List.set_cons_zero, List.set_cons_succ]
            refine wpAnyH_take (i := 1) (v := ?_) rfl (by kernel_rfl) (by kernel_rfl) (by kernel_rfl) (fun _ _ _ h => h) (Or.inl ⟨by rfl, ?_⟩) (by assumption) ?_
            rotate_left
            · (intro wq hSw; (try dsimp only at hSw); (go_simp <;> with_reducible rfl))
            try simp only [Act.put, List.getElem_toArray, List.getElem_cons_zero, List.getElem_cons_succ, List.setIfInBounds_toArray, List.set_cons_zero, List.set_cons_succ]
            refine wpAnyH_ready (rs := [2]) (by kernel_rfl) (by simp) ?_
            refine AllReadyH.cons rfl (fun K hK => ?_) AllReadyH.nil
            go_simp
            (go_at_call 25; (with_reducible refine (HPAR.out _ (HG8.out.rowAt hbb (Nat.le_refl _))).mono ?_); rintro e w21 ⟨PZ, dz, rfl, _, hb⟩; go_wp2_with fail)
            have hbb := below_trans hbb hb
            obtain ⟨x0, x1, ca, cb⟩ := HC8.out _ hbb
            refine hK.out _ _ ?_ (fun hHeld => ?_)
            · (try dsimp only); exact ⟨x0, x1, ca, cb⟩
            clear hK K
            try simp only [Act.put, List.getElem_toArray, List.getElem_cons_zero, List.getElem_cons_succ, List.setIfInBounds_toArray, List.set_cons_zero, List.set_cons_succ]
            refine wpAnyH_take (i := 3) (v := ?_) rfl (by kernel_rfl) (by kernel_rfl) (by kernel_rfl) (fun _ _ _ h => h) (Or.inl ⟨by rfl, ?_⟩) (by assumption) ?_
            rotate_left
            · (intro wq hSw; (try dsimp only at hSw); (go_simp <;> with_reducible rfl))
            try simp only [Act.put, List.getElem_toArray, List.getElem_cons_zero, List.getElem_cons_succ, List.setIfInBounds_toArray, List.set_cons_zero, List.set_cons_succ]
            refine wpAnyH_take (i := 4) (v := ?_) rfl (by kernel_rfl) (by kernel_rfl) (by kernel_rfl) (fun _ _ _ h => h) (Or.inl ⟨by rfl, ?_⟩) (by assumption) ?_
            rotate_left
            · (intro wq hSw; (try dsimp only at hSw); (go_simp <;> with_reducible rfl))
            try simp only [Act.put, List.getElem_toArray, List.getElem_cons_zero, List.getElem_cons_succ, List.setIfInBounds_toArray, List.set_cons_zero, List.set_cons_succ]
            refine wpAnyH_take (i := 5) (v := ?_) rfl (by kernel_rfl) (by kernel_rfl) (by kernel_rfl) (fun _ _ _ h => h) (Or.inl ⟨by rfl, ?_⟩) (by assumption) ?_
            rotate_left
            · (intro wq hSw; (try dsimp only at hSw); (go_simp <;> with_reducible rfl))
            try simp only [Act.put, List.getElem_toArray, List.getElem_cons_zero, List.getElem_cons_succ, List.setIfInBounds_toArray, List.set_cons_zero, List.set_cons_succ]
            refine wpAnyH_take (i := 6) (v := ?_) rfl (by kernel_rfl) (by kernel_rfl) (by kernel_rfl) (fun _ _ _ h => h) (Or.inl ⟨by rfl, ?_⟩) (by assumption) ?_
            rotate_left
            · (intro wq hSw; (try dsimp only at hSw); (go_simp <;> with_reducible rfl))
            try simp only [Act.put, List.getElem_toArray, List.getElem_cons_zero, List.getElem_cons_succ, List.setIfInBounds_toArray, List.set_cons_zero, List.set_cons_succ]
            refine wpAnyH_take (i := 7) (v := ?_) rfl (by kernel_rfl) (by kernel_rfl) (by kernel_rfl) (fun _ _ _ h => h) (Or.inl ⟨by rfl, ?_⟩) (by assumption) ?_
            rotate_left
            · (intro wq hSw; (try dsimp only at hSw); (go_simp <;> with_reducible rfl))
            try simp only [Act.put, List.getElem_toArray, List.getElem_cons_zero, List.getElem_cons_succ, List.setIfInBounds_toArray, List.set_cons_zero, List.set_cons_succ]
            refine wpAnyH_take (i := 8) (v := ?_) rfl (by kernel_rfl) (by kernel_rfl) (by kernel_rfl) (fun _ _ _ h => h) (Or.inl ⟨by rfl, ?_⟩) (by assumption) ?_
            rotate_left
            · (intro wq hSw; (try dsimp only at hSw); (go_simp <;> with_reducible rfl))
            try simp only [Act.put, List.getElem_toArray, List.getElem_cons_zero, List.getElem_cons_succ, List.setIfInBounds_toArray, List.set_cons_zero, List.set_cons_succ]
            refine wpAnyH_take (i := 9) (v := ?_) rfl (by kernel_rfl) (by kernel_rfl) (by kernel_rfl) (fun _ _ _ h => h) (Or.inl ⟨by rfl, ?_⟩) (by assumption) ?_
            rotate_left
            · (intro wq hSw; (try dsimp only at hSw); (go_simp <;> with_reducible rfl))
            try simp only [Act.put, List.getElem_toArray, List.getElem_cons_zero, List.getElem_cons_succ, List.setIfInBounds_toArray, List.set_cons_zero, List.set_cons_succ]
            refine wpAnyH_take (i := 10) (v := ?_) rfl (by kernel_rfl) (by kernel_rfl) (by kernel_rfl) (fun _ _ _ h => h) (Or.inl ⟨by rfl, ?_⟩) (by assumption) ?_
            rotate_left
            · (intro wq hSw; (try dsimp only at hSw); (go_simp <;> with_reducible rfl))
            try simp only [Act.put, List.getElem_toArray, List.getElem_cons_zero, List.getElem_cons_succ, List.setIfInBounds_toArray, List.set_cons_zero, List.set_cons_succ]
            refine wpAnyH_ready (rs := [11]) (by kernel_rfl) (by simp) ?_
            refine AllReadyH.cons rfl (fun K hK => ?_) AllReadyH.nil
            go_simp
            (go_at_call 20; (with_reducible refine (HBL.out _ (HM8.out.rowAt hbb (Nat.le_refl _))).mono ?_); rintro e w22 ⟨rfl, hb⟩; go_wp2_with fail)
            have hbb := below_trans hbb hb
            obtain ⟨x0, x1, ca, cb⟩ := HC8.out _ hbb
            refine hK.out _ _ ?_ (fun hHeld => ?_)
            · (try dsimp only); exact ⟨x0, x1, ca, cb⟩
            clear hK K
            try simp only [Act.put, List.getElem_toArray, List.getElem_cons_zero, List.getElem_cons_succ, List.setIfInBounds_toArray, List.set_cons_zero, List.set_cons_succ]
            refine wpAnyH_take (i := 12) (v := ?_) rfl (by kernel_rfl) (by kernel_rfl) (by kernel_rfl) (fun _ _ _ h => h) (Or.inl ⟨by rfl, ?_⟩) (by assumption) ?_
            rotate_left
            · (intro wq hSw; (try dsimp only at hSw); (go_simp <;> with_reducible rfl))
            try simp only [Act.put, List.getElem_toArray, List.getElem_cons_zero, List.getElem_cons_succ, List.setIfInBounds_toArray, List.set_cons_zero, List.set_cons_succ]
            refine wpAnyH_take (i := 13) (v := ?_) rfl (by kernel_rfl) (by kernel_rfl) (by kernel_rfl) (fun _ _ _ h => h) (Or.inl ⟨by rfl, ?_⟩) (by assumption) ?_
            rotate_left
            · (intro wq hSw; (try dsimp only at hSw); (go_simp <;> with_reducible rfl))
            try simp only [Act.put, List.getElem_toArray, List.getElem_cons_zero, List.getElem_cons_succ, List.setIfInBounds_toArray, List.set_cons_zero, List.set_cons_succ]
            refine wpAnyH_take (i := 14) (v := ?_) rfl (by kernel_rfl) (by kernel_rfl) (by kernel_rfl) (fun _ _ _ h => h) (Or.inl ⟨by rfl, ?_⟩) (by assumption) ?_
            rotate_left
            · (intro wq hSw; (try dsimp only at hSw); (go_simp <;> with_reducible rfl))
            try simp only [Act.put, List.getElem_toArray, List.getElem_cons_zero, List.getElem_cons_succ, List.setIfInBounds_toArray, List.set_cons_zero, List.set_cons_succ]
            refine wpAnyH_take (i := 15) (v := ?_) rfl (by kernel_rfl) (by kernel_rfl) (by kernel_rfl) (fun _ _ _ h => h) (Or.inl ⟨by rfl, ?_⟩) (by assumption) ?_
            rotate_left
            · (intro wq hSw; (try dsimp only at hSw); (go_simp <;> with_reducible rfl))
            try simp only [Act.put, List.getElem_toArray, List.getElem_cons_zero, List.getElem_cons_succ, List.setIfInBounds_toArray, List.set_cons_zero, List.set_cons_succ]
            refine wpAnyH_take (i := 16) (v := ?_) rfl (by kernel_rfl) (by kernel_rfl) (by kernel_rfl) (fun _ _ _ h => h) (Or.inl ⟨by rfl, ?_⟩) (by assumption) ?_
            rotate_left
            · (intro wq hSw; (try dsimp only at hSw); (go_simp <;> with_reducible rfl))
            try simp only [Act.put, List.getElem_toArray, List.getElem_cons_zero, List.getElem_cons_succ, List.setIfInBounds_toArray, List.set_cons_zero, List.set_cons_succ]
            refine wpAnyH_ready (rs := [17]) (by kernel_rfl) (by simp) ?_
            refine AllReadyH.cons rfl (fun K hK => ?_) AllReadyH.nil
            go_simp
            (go_at_call 26; (with_reducible refine (HSQU.out _ (HG8.out.rowAt hbb (Nat.le_refl _))).mono ?_); rintro e w23 ⟨rfl, hb⟩; go_wp2_with fail)
            have hbb := below_trans hbb hb
            obtain ⟨x0, x1, ca, cb⟩ := HC8.out _ hbb
            refine hK.out _ _ ?_ (fun hHeld => ?_)
            · (try dsimp only); exact ⟨x0, x1, ca, cb⟩
            clear hK K
            try simp only [Act.put, List.getElem_toArray, List.getElem_cons_zero, List.getElem_cons_succ, List.setIfInBounds_toArray, List.set_cons_zero, List.set_cons_succ]
            refine wpAnyH_take (i := 18) (v := ?_) rfl (by kernel_rfl) (by kernel_rfl) (by kernel_rfl) (fun _ _ _ h => h) (Or.inl ⟨by rfl, ?_⟩) (by assumption) ?_
            rotate_left
            · (intro wq hSw; (try dsimp only at hSw); (go_simp <;> with_reducible rfl))
            try simp only [Act.put, List.getElem_toArray, List.getElem_cons_zero, List.getElem_cons_succ, List.setIfInBounds_toArray, List.set_cons_zero, List.set_cons_succ]
            refine wpAnyH_take (i := 19) (v := ?_) rfl (by kernel_rfl) (by kernel_rfl) (by kernel_rfl) (fun _ _ _ h => h) (Or.inl ⟨by rfl, ?_⟩) (by assumption) ?_
            rotate_left
            · (intro wq hSw; (try dsimp only at hSw); (go_simp <;> with_reducible rfl))
            try simp only [Act.put, List.getElem_toArray, List.getElem_cons_zero, List.getElem_cons_succ, List.setIfInBounds_toArray, List.set_cons_zero, List.set_cons_succ]
            refine wpAnyH_take (i := 20) (v := ?_) rfl (by kernel_rfl) (by kernel_rfl) (by kernel_rfl) (fun _ _ _ h => h) (Or.inl ⟨by rfl, ?_⟩) (by assumption) ?_
            rotate_left
            · (intro wq hSw; (try dsimp only at hSw); (go_simp <;> with_reducible rfl))
            try simp only [Act.put, List.getElem_toArray, List.getElem_cons_zero, List.getElem_cons_succ, List.setIfInBounds_toArray, List.set_cons_zero, List.set_cons_succ]
            refine wpAnyH_take (i := 21) (v := ?_) rfl (by kernel_rfl) (by kernel_rfl) (by kernel_rfl) (fun _ _ _ h => h) (Or.inl ⟨by rfl, ?_⟩) (by assumption) ?_
            rotate_left
            · (intro wq hSw; (try dsimp only at hSw); (go_simp <;> with_reducible rfl))
            try simp only [Act.put, List.getElem_toArray, List.getElem_cons_zero, List.getElem_cons_succ, List.setIfInBounds_toArray, List.set_cons_zero, List.set_cons_succ]
            refine wpAnyH_take (i := 22) (v := ?_) rfl (by kernel_rfl) (by kernel_rfl) (by kernel_rfl) (fun _ _ _ h => h) (Or.inl ⟨by rfl, ?_⟩) (by assumption) ?_
            rotate_left
            · (intro wq hSw; (try dsimp only at hSw); (go_simp <;> with_reducible rfl))
            try simp only [Act.put, List.getElem_toArray, List.getElem_cons_zero, List.getElem_cons_succ, List.setIfInBounds_toArray, List.set_cons_zero, List.set_cons_succ]
            refine wpAnyH_ready (rs := [23]) (by kernel_rfl) (by simp) ?_
            refine AllReadyH.cons rfl (fun K hK => ?_) AllReadyH.nil
            go_simp
            (go_at_call 22; (with_reducible refine (HCTW.out _ (HG8.out.rowAt hbb (Nat.le_refl _))).mono ?_); rintro e w24 ⟨rfl, hb⟩; go_wp2_with fail)
            have hbb := below_trans hbb hb
            obtain ⟨x0, x1, ca, cb⟩ := HC8.out _ hbb
            refine hK.out _ _ ?_ (fun hHeld => ?_)
            · (try dsimp only); exact ⟨x0, x1, ca, cb⟩
            clear hK K
            try simp only [Act.put, List.getElem_toArray, List.getElem_cons_zero, List.getElem_cons_succ, List.setIfInBounds_toArray, List.set_cons_zero, List.set_cons_succ]
            refine wpAnyH_take (i := 24) (v := ?_) rfl (by kernel_rfl) (by kernel_rfl) (by kernel_rfl) (fun _ _ _ h => h) (Or.inl ⟨by rfl, ?_⟩) (by assumption) ?_
            rotate_left
            · (intro wq hSw; (try dsimp only at hSw); (go_simp <;> with_reducible rfl))
            try simp only [Act.put, List.getElem_toArray, List.getElem_cons_zero, List.getElem_cons_succ, List.setIfInBounds_toArray, List.set_cons_zero, List.set_cons_succ]
            refine wpAnyH_take (i := 25) (v := ?_) rfl (by kernel_rfl) (by kernel_rfl) (by kernel_rfl) (fun _ _ _ h => h) (Or.inl ⟨by rfl, ?_⟩) (by assumption) ?_
            rotate_left
            · (intro wq hSw; (try dsimp only at hSw); (go_simp <;> with_reducible rfl))
            try simp only [Act.put, List.getElem_toArray, List.getElem_cons_zero, List.getElem_cons_succ, List.setIfInBounds_toArray, List.set_cons_zero, List.set_cons_succ]
            refine wpAnyH_take (i := 26) (v := ?_) rfl (by kernel_rfl) (by kernel_rfl) (by kernel_rfl) (fun _ _ _ h => h) (Or.inl ⟨by rfl, ?_⟩) (by assumption) ?_
            rotate_left
            · (intro wq hSw; (try dsimp only at hSw); (go_simp <;> with_reducible rfl))
            try simp only [Act.put, List.getElem_toArray, List.getElem_cons_zero, List.getElem_cons_succ, List.setIfInBounds_toArray, List.set_cons_zero, List.set_cons_succ]
            refine wpAnyH_take (i := 27) (v := ?_) rfl (by kernel_rfl) (by kernel_rfl) (by kernel_rfl) (fun _ _ _ h => h) (Or.inl ⟨by rfl, ?_⟩) (by assumption) ?_
            rotate_left
            · (intro wq hSw; (try dsimp only at hSw); (go_simp <;> with_reducible rfl))
            try simp only [Act.put, List.getElem_toArray, List.getElem_cons_zero, List.getElem_cons_succ, List.setIfInBounds_toArray, List.set_cons_zero, List.set_cons_succ]
            refine wpAnyH_take (i := 29) (v := ?_) rfl (by kernel_rfl) (by kernel_rfl) (by kernel_rfl) (fun _ _ _ h => h) (Or.inl ⟨by rfl, ?_⟩) (by assumption) ?_
            rotate_left
            · (intro wq hSw; (try dsimp only at hSw); (go_simp <;> with_reducible rfl))
            try simp only [Act.put, List.getElem_toArray, List.getElem_cons_zero, List.getElem_cons_succ, List.setIfInBounds_toArray, List.set_cons_zero, List.set_cons_succ]
            refine wpAnyH_take (i := 30) (v := ?_) rfl (by kernel_rfl) (by kernel_rfl) (by kernel_rfl) (fun _ _ _ h => h) (Or.inl ⟨by rfl, ?_⟩) (by assumption) ?_
            rotate_left
            · (intro wq hSw; (try dsimp only at hSw); (go_simp <;> with_reducible rfl))
            try simp only [Act.put, List.getElem_toArray, List.getElem_cons_zero, List.getElem_cons_succ, List.setIfInBounds_toArray, List.set_cons_zero, List.set_cons_succ]
            refine wpAnyH_take (i := 31) (v := ?_) rfl (by kernel_rfl) (by kernel_rfl) (by kernel_rfl) (fun _ _ _ h => h) (Or.inl ⟨by rfl, ?_⟩) (by assumption) ?_
            rotate_left
            · (intro wq hSw; (try dsimp only at hSw); (go_simp <;> with_reducible rfl))
            try simp only [Act.put, List.getElem_toArray, List.getElem_cons_zero, List.getElem_cons_succ, List.setIfInBounds_toArray, List.set_cons_zero, List.set_cons_succ]
            refine wpAnyH_take (i := 32) (v := ?_) rfl (by kernel_rfl) (by kernel_rfl) (by kernel_rfl) (fun _ _ _ h => h) (Or.inl ⟨by rfl, ?_⟩) (by assumption) ?_
            rotate_left
            · (intro wq hSw; (try dsimp only at hSw); (go_simp <;> with_reducible rfl))
            try simp only [Act.put, List.getElem_toArray, List.getElem_cons_zero, List.getElem_cons_succ, List.setIfInBounds_toArray, List.set_cons_zero, List.set_cons_succ]
            refine wpAnyH_take (i := 33) (v := ?_) rfl (by kernel_rfl) (by kernel_rfl) (by kernel_rfl) (fun _ _ _ h => h) (Or.inl ⟨by rfl, ?_⟩) (by assumption) ?_
            rotate_left
            · (intro wq hSw; (try dsimp only at hSw); (go_simp <;> with_reducible rfl))
            try simp only [Act.put, List.getElem_toArray, List.getElem_cons_zero, List.getElem_cons_succ, List.setIfInBounds_toArray, List.set_cons_zero, List.set_cons_succ]
            refine wpAnyH_take (i := 34) (v := ?_) rfl (by kernel_rfl) (by kernel_rfl) (by kernel_rfl) (fun _ _ _ h => h) (Or.inl ⟨by rfl, ?_⟩) (by assumption) ?_
            rotate_left
            · (intro wq hSw; (try dsimp only at hSw); (go_simp <;> with_reducible rfl))
            try simp only [Act.put, List.getElem_toArray, List.getElem_cons_zero, List.getElem_cons_succ, List.setIfInBounds_toArray, List.set_cons_zero, List.set_cons_succ]
            refine wpAnyH_take (i := 35) (v := ?_) rfl (by kernel_rfl) (by kernel_rfl) (by kernel_rfl) (fun _ _ _ h => h) (Or.inl ⟨by rfl, ?_⟩) (by assumption) ?_
            rotate_left
            · (intro wq hSw; (try dsimp only at hSw); (go_simp <;> with_reducible rfl))
            try simp only [Act.put, List.getElem_toArray, List.getElem_cons_zero, List.getElem_cons_succ, List.setIfInBounds_toArray, List.set_cons_zero, List.set_cons_succ]
            refine wpAnyH_take (i := 36) (v := ?_) rfl (by kernel_rfl) (by kernel_rfl) (by kernel_rfl) (fun _ _ _ h => h) (Or.inl ⟨by rfl, ?_⟩) (by assumption) ?_
            rotate_left
            · (intro wq hSw; (try dsimp only at hSw); (go_simp <;> with_reducible rfl))
            try simp only [Act.put, List.getElem_toArray, List.getElem_cons_zero, List.getElem_cons_succ, List.setIfInBounds_toArray, List.set_cons_zero, List.set_cons_succ]
            refine wpAnyH_take (i := 37) (v := ?_) rfl (by kernel_rfl) (by kernel_rfl) (by kernel_rfl) (fun _ _ _ h => h) (Or.inl ⟨by rfl, ?_⟩) (by assumption) ?_
            rotate_left
            · (intro wq hSw; (try dsimp only at hSw); (go_simp <;> with_reducible rfl))
            try simp only [Act.put, List.getElem_toArray, List.getElem_cons_zero, List.getElem_cons_succ, List.setIfInBounds_toArray, List.set_cons_zero, List.set_cons_succ]
            refine wpAnyH_take (i := 38) (v := ?_) rfl (by kernel_rfl) (by kernel_rfl) (by kernel_rfl) (fun _ _ _ h => h) (Or.inl ⟨by rfl, ?_⟩) (by assumption) ?_
            rotate_left
            · (intro wq hSw; (try dsimp only at hSw); (go_simp <;> with_reducible rfl))
            try simp only [Act.put, List.getElem_toArray, List.getElem_cons_zero, List.getElem_cons_succ, List.setIfInBounds_toArray, List.set_cons_zero, List.set_cons_succ]
            refine wpAnyH_ready (rs := [28]) (by kernel_rfl) (by simp) ?_
            refine AllReadyH.cons rfl (fun K hK => ?_) AllReadyH.nil
            go_simp
            (go_at_call 27; (with_reducible refine (HREG.out _ (HG8.out.rowAt hbb (Nat.le_refl _))).mono ?_); rintro e w25 ⟨rfl, hb⟩; go_wp2_with fail)
            have hbb := below_trans hbb hb
            obtain ⟨x0, x1, ca, cb⟩ := HC8.out _ hbb
            refine hK.out _ _ ?_ (fun hHeld => ?_)
            · (try dsimp only); exact ⟨x0, x1, ca, cb⟩
            clear hK K
            try simp only [Act.put, List.getElem_toArray, List.getElem_cons_zero, List.getElem_cons_succ, List.setIfInBounds_toArray, List.set_cons_zero, List.set_cons_succ]
            refine wpAnyH_take (i := 39) (v := ?_) rfl (by kernel_rfl) (by kernel_rfl) (by kernel_rfl) (fun _ _ _ h => h) (Or.inl ⟨by rfl, ?_⟩) (by assumption) ?_
            rotate_left
            · (intro wq hSw; (try dsimp only at hSw); (go_simp <;> with_reducible rfl))
            try simp only [Act.put, List.getElem_toArray, List.getElem_cons_zero, List.getElem_cons_succ, List.setIfInBounds_toArray, List.set_cons_zero, List.set_cons_succ]
            refine wpAnyH_take (i := 40) (v := ?_) rfl (by kernel_rfl) (by kernel_rfl) (by kernel_rfl) (fun _ _ _ h => h) (Or.inl ⟨by rfl, ?_⟩) (by assumption) ?_
            rotate_left
            · (intro wq hSw; (try dsimp only at hSw); (go_simp <;> with_reducible rfl))
            try simp only [Act.put, List.getElem_toArray, List.getElem_cons_zero, List.getElem_cons_succ, List.setIfInBounds_toArray, List.set_cons_zero, List.set_cons_succ]
            refine wpAnyH_take (i := 41) (v := ?_) rfl (by kernel_rfl) (by kernel_rfl) (by kernel_rfl) (fun _ _ _ h => h) (Or.inl ⟨by rfl, ?_⟩) (by assumption) ?_
            rotate_left
            · (intro wq hSw; (try dsimp only at hSw); (go_simp <;> with_reducible rfl))
            try simp only [Act.put, List.getElem_toArray, List.getElem_cons_zero, List.getElem_cons_succ, List.setIfInBounds_toArray, List.set_cons_zero, List.set_cons_succ]
            refine wpAnyH_ready (rs := [42]) (by kernel_rfl) (by simp) ?_
            refine AllReadyH.cons rfl (fun K hK => ?_) AllReadyH.nil
            go_simp
            (go_at_call 28; (with_reducible refine (HFIV.out _).mono ?_); rintro e w26 ⟨rfl, hb⟩; go_wp2_with fail)
            have hbb := below_trans hbb hb
            obtain ⟨x0, x1, ca, cb⟩ := HC8.out _ hbb
            refine hK.out _ _ ?_ (fun hHeld => ?_)
            · (try dsimp only); exact ⟨x0, x1, ca, cb⟩
            clear hK K
            try simp only [Act.put, List.getElem_toArray, List.getElem_cons_zero, List.getElem_cons_succ, List.setIfInBounds_toArray, List.set_cons_zero, List.set_cons_succ]
            refine wpAnyH_take (i := 43) (v := ?_) rfl (by kernel_rfl) (by kernel_rfl) (by kernel_rfl) (fun _ _ _ h => h) (Or.inl ⟨by rfl, ?_⟩) (by assumption) ?_
            rotate_left
            · (intro wq hSw; (try dsimp only at hSw); (go_simp <;> with_reducible rfl))
            try simp only [Act.put, List.getElem_toArray, List.getElem_cons_zero, List.getElem_cons_succ, List.setIfInBounds_toArray, List.set_cons_zero, List.set_cons_succ]
            refine wpAnyH_take (i := 44) (v := ?_) rfl (by kernel_rfl) (by kernel_rfl) (by kernel_rfl) (fun _ _ _ h => h) (Or.inl ⟨by rfl, ?_⟩) (by assumption) ?_
            rotate_left
            · (intro wq hSw; (try dsimp only at hSw); (go_simp <;> with_reducible rfl))
            try simp only [Act.put, List.getElem_toArray, List.getElem_cons_zero, List.getElem_cons_succ, List.setIfInBounds_toArray, List.set_cons_zero, List.set_cons_succ]
            refine wpAnyH_take (i := 45) (v := ?_) rfl (by kernel_rfl) (by kernel_rfl) (by kernel_rfl) (fun _ _ _ h => h) (Or.inl ⟨by rfl, ?_⟩) (by assumption) ?_
            rotate_left
            · (intro wq hSw; (try dsimp only at hSw); (go_simp <;> with_reducible rfl))
            try simp only [Act.put, List.getElem_toArray, List.getElem_cons_zero, List.getElem_cons_succ, List.setIfInBounds_toArray, List.set_cons_zero, List.set_cons_succ]
            refine wpAnyH_take (i := 46) (v := ?_) rfl (by kernel_rfl) (by kernel_rfl) (by kernel_rfl) (fun _ _ _ h => h) (Or.inl ⟨by rfl, ?_⟩) (by assumption) ?_
            rotate_left
            · (intro wq hSw; (try dsimp only at hSw); (go_simp <;> with_reducible rfl))
            try simp only [Act.put, List.getElem_toArray, List.getElem_cons_zero, List.getElem_cons_succ, List.setIfInBounds_toArray, List.set_cons_zero, List.set_cons_succ]
            refine wpAnyH_ready (rs := [47]) (by kernel_rfl) (by simp) ?_
            refine AllReadyH.cons rfl (fun K hK => ?_) AllReadyH.nil
            go_simp
            (go_at_call 27; (with_reducible refine (HREG.out _ (HG8.out.rowAt hbb (Nat.le_refl _))).mono ?_); rintro e w27 ⟨rfl, hb⟩; go_wp2_with fail)
            have hbb := below_trans hbb hb
            obtain ⟨x0, x1, ca, cb⟩ := HC8.out _ hbb
            refine hK.out _ _ ?_ (fun hHeld => ?_)
            · (try dsimp only); exact ⟨x0, x1, ca, cb⟩
            clear hK K
            try simp only [Act.put, List.getElem_toArray, List.getElem_cons_zero, List.getElem_cons_succ, List.setIfInBounds_toArray, List.set_cons_zero, List.set_cons_succ]
            refine wpAnyH_take (i := 48) (v := ?_) rfl (by kernel_rfl) (by kernel_rfl) (by kernel_rfl) (fun _ _ _ h => h) (Or.inl ⟨by rfl, ?_⟩) (by assumption) ?_
            rotate_left
            · (intro wq hSw; (try dsimp only at hSw); (go_simp <;> with_reducible rfl))
            try simp only [Act.put, List.getElem_toArray, List.getElem_cons_zero, List.getElem_cons_succ, List.setIfInBounds_toArray, List.set_cons_zero, List.set_cons_succ]
            refine wpAnyH_take (i := 49) (v := ?_) rfl (by kernel_rfl) (by kernel_rfl) (by kernel_rfl) (fun _ _ _ h => h) (Or.inl ⟨by rfl, ?_⟩) (by assumption) ?_
            rotate_left
            · (intro wq hSw; (try dsimp only at hSw); (go_simp <;> with_reducible rfl))
            try simp only [Act.put, List.getElem_toArray, List.getElem_cons_zero, List.getElem_cons_succ, List.setIfInBounds_toArray, List.set_cons_zero, List.set_cons_succ]
            refine wpAnyH_take (i := 50) (v := undef) rfl (by kernel_rfl) (by kernel_rfl) (by kernel_rfl) (fun _ _ _ h => h) (Or.inr ⟨by rfl, rfl⟩) (by assumption) ?_
            try simp only [Act.put, List.getElem_toArray, List.getElem_cons_zero, List.getElem_cons_succ, List.setIfInBounds_toArray, List.set_cons_zero, List.set_cons_succ]
            refine wpAnyH_take (i := 51) (v := undef) rfl (by kernel_rfl) (by kernel_rfl) (by kernel_rfl) (fun _ _ _ h => h) (Or.inr ⟨by rfl, rfl⟩) (by assumption) ?_
            try simp only [Act.put, List.getElem_toArray, List.getElem_cons_zero, List.getElem_cons_succ, List.setIfInBounds_toArray, List.set_cons_zero, List.set_cons_succ]
            refine wpAnyH_take (i := 52) (v := undef) rfl (by kernel_rfl) (by kernel_rfl) (by kernel_rfl) (fun _ _ _ h => h) (Or.inr ⟨by rfl, rfl⟩) (by assumption) ?_
            try simp only [Act.put, List.getElem_toArray, List.getElem_cons_zero, List.getElem_cons_succ, List.setIfInBounds_toArray, List.set_cons_zero, List.set_cons_succ]
            refine wpAnyH_take (i := 53) (v := undef) rfl (by kernel_rfl) (by kernel_rfl) (by kernel_rfl) (fun _ _ _ h => h) (Or.inr ⟨by rfl, rfl⟩) (by assumption) ?_
            try simp only [Act.put, List.getElem_toArray, List.getElem_cons_zero, List.getElem_cons_succ, List.setIfInBounds_toArray, List.set_cons_zero, List.set_cons_succ]
            refine wpAnyH_take (i := 54) (v := undef) rfl (by kernel_rfl) (by kernel_rfl) (by kernel_rfl) (fun _ _ _ h => h) (Or.inr ⟨by rfl, rfl⟩) (by assumption) ?_
            try simp only [Act.put, List.getElem_toArray, List.getElem_cons_zero, List.getElem_cons_succ, List.setIfInBounds_toArray, List.set_cons_zero, List.set_cons_succ]
            refine wpAnyH_take (i := 55) (v := ?_) rfl (by kernel_rfl) (by kernel_rfl) (by kernel_rfl) (fun _ _ _ h => h) (Or.inl ⟨by rfl, ?_⟩) (by assumption) ?_
            rotate_left
            · (intro wq hSw; (try dsimp only at hSw); (go_simp <;> with_reducible rfl))
            try simp only [Act.put, List.getElem_toArray, List.getElem_cons_zero, List.getElem_cons_succ, List.setIfInBounds_toArray, List.set_cons_zero, List.set_cons_succ]
            refine wpAnyH_take (i := 56) (v := ?_) rfl (by kernel_rfl) (by kernel_rfl) (by kernel_rfl) (fun _ _ _ h => h) (Or.inl ⟨by rfl, ?_⟩) (by assumption) ?_
            rotate_left
            · (intro wq hSw; (try dsimp only at hSw); (go_simp <;> with_reducible rfl))
            try simp only [Act.put, List.getElem_toArray, List.getElem_cons_zero, List.getElem_cons_succ, List.setIfInBounds_toArray, List.set_cons_zero, List.set_cons_succ]
            refine wpAnyH_take (i := 57) (v := ?_) rfl (by kernel_rfl) (by kernel_rfl) (by kernel_rfl) (fun _ _ _ h => h) (Or.inl ⟨by rfl, ?_⟩) (by assumption) ?_
            rotate_left
            · (intro wq hSw; (try dsimp only at hSw); (go_simp <;> with_reducible rfl))
            try simp only [Act.put, List.getElem_toArray, List.getElem_cons_zero, List.getElem_cons_succ, List.setIfInBounds_toArray, List.set_cons_zero, List.set_cons_succ]
            refine wpAnyH_done (by kernel_rfl) ?_ _
            go_wp2
            go_ret
            exact ⟨rfl, below_trans HBE.out hbb⟩
end Go.Proofs.Ytaocjjocncoahaa
