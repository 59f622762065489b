/- RealizeScores, walked on the reference's side. -/
import Derived.Test.YtaocjjocncoahaaRealS
import Derived.Test.YtaocjjocncoahaaRealT
import Derived.Test.YtaocjjocncoahaaLandau
import Derived.Test.YtaocjjocncoahaaFlip
namespace Go.Proofs.Ytaocjjocncoahaa
open Go.RowKit

theorem zeros_fl' (n : Nat) : List.replicate n 0 = fl n (fun _ => 0) := by
  unfold fl
  rw [List.map_const', List.length_range]
theorem ints_setz' (zs : List Int) (k : Nat) (z : Int) : (ints zs).set k (.int .i64 z) = ints (zs.set k z) := by
  unfold ints
  rw [List.map_set]
theorem But3.setNew {a b c : Nat} {w w' : World} (h : But3 a b c w w') {p : Addr} (hp : w.heap.size ≤ p.block) (u : Value) : But3 a b c w (w'.setCell p u) :=
  ⟨h.os, h.tape, h.output, by rw [World.size_setCell]; exact h.size, fun g hg ha hb hc => (Below.heap_setCell w' p u g (fun e => by omega)).trans (h.block g hg ha hb hc)⟩
/-- What stands between two rounds. -/
structure SAt (n gT gs gd ds : Nat) (zs : List Int) (w7 wr : World) (f : Nat → Nat) (s : Nat → Int) (l : List Nat) : Prop where
  inv : RI n f s l
  goal : rz l.length f s l = rzF zs
  oT : Own wr gT (gT + 1) 3 (some ⟨gT, 0, none⟩) n (ints (casts (fl n f)))
  oS : Own wr gs (gs + 1) 3 (some ⟨gs, 0, none⟩) ds (ints (fz n s))
  oD : Own wr gd (gd + 1) 4 (some ⟨gd, 0, none⟩) n (bl n (HD l))
  but : But3 gT gs gd w7 wr
/-- What stands within a round: the rows, the numbers, who is done, who is hidden. -/
structure SIn (n gT gs gd ds gh dh : Nat) (w7 wr : World) (f : Nat → Nat) (s : Nat → Int) (D H : Nat → Bool) : Prop where
  oT : Own wr gT (gT + 1) 3 (some ⟨gT, 0, none⟩) n (ints (casts (fl n f)))
  oS : Own wr gs (gs + 1) 3 (some ⟨gs, 0, none⟩) ds (ints (fz n s))
  oD : Own wr gd (gd + 1) 4 (some ⟨gd, 0, none⟩) n (bl n D)
  oH : Own wr gh (gh + 1) 4 (some ⟨gh, 0, none⟩) dh (bl n H)
  but : But3 gT gs gd w7 wr
set_option maxRecDepth 20000 in
set_option maxHeartbeats 4000000 in
theorem sRealizeScores_any (A : Option Addr) (c : Nat) (zs : List Int) (w : World) (h : Row w w.heap.size A (ints zs)) (hl : zs.length ≤ 1048577) :
    Calls Try.prog 8 #[.slice A zs.length c] w (NewTourOk w (tRealizeScores zs) (rRealizeScores zs) (bRealizeScores zs)) := by
  by_cases hn : 1 ≤ zs.length ∧ zs.length ≤ 8
  · have HW := Lib.hid (fun W' => sIn_yes (zs.length : Int) 1 8 W' (by omega) (by omega))
    have HSo := Lib.hid (l03Sort_any A c zs (w.alloc (.cells #[.int .i64 0, .slice none 0 0] 26)) ((h.alloc (Nat.le_refl _) _).mono (by simp)) (by omega))
    go_enter Try.func8, Try.ntmps8
    go_wp2_with fail
    refine (HW.out _).mono ?_
    rintro e w1 ⟨rfl, rfl⟩
    go_wp2_with fail
    refine HSo.out.mono ?_
    rintro e w1 ⟨G, d, rfl, ho, hb1⟩
    obtain ⟨r0, r1, f0, f1⟩ := boxed_over hb1
    have hbw1 : Below w.heap.size w w1 := Below.trans (by go_grown) (hb1.mono (by simp))
    have hz1 : w.heap.size + 1 ≤ w1.heap.size := by have := hb1.size; simpa using this
    have HI := Lib.hid (sIsLandau_any G d (sortL zs) w1 (ho.row.mono (Nat.le_refl _)) (by rw [sortL_length]; omega))
    clear ho hb1 HSo
    go_wp2_with fail
    refine HI.out.mono ?_
    rintro e w3 ⟨rfl, hb3⟩
    obtain ⟨⟨r0, r1⟩, ⟨f0, f1⟩⟩ := res_keep r0 r1 f0 f1 hb3
    have hbw3 : Below w.heap.size w w3 := below_trans hbw1 hb3
    have hz3 : w.heap.size + 1 ≤ w3.heap.size := by have := hb3.size; omega
    rw [show rIsLandau (sortL zs) = bRealizeScores zs from rfl]
    clear hbw1 hb3 hz1 HI
    cases hB : bRealizeScores zs with
    | false =>
      have HT : Hid (tRealizeScores zs = 0) := Lib.hid (by unfold tRealizeScores; rw [hB]; rfl)
      have HR : Hid (rRealizeScores zs = []) := Lib.hid (by unfold rRealizeScores; rw [hB]; rfl)
      have HBH := Lib.hid hB
      clear hB
      go_wp2
      refine bodyPost_ret (v := .tuple #[.agg #[.int .i64 0, .slice none 0 0], .bool false]) (by simp [results, Try.results8, go_sem, r0, r1]) rfl (newTourOk_none HT.out HR.out (by first | rfl | exact HBH.out) ?_)
      refine (hbw3.setCell ?_ _).setCell ?_ _
      all_goals (show _ ≤ _; simp)
    | true =>
      obtain ⟨n1, n8⟩ := hn
      have HT : Hid (tRealizeScores zs = (zs.length : Int)) := Lib.hid (by unfold tRealizeScores; rw [hB]; rfl)
      have HR : Hid (rRealizeScores zs = casts (fl zs.length (rzF zs))) := Lib.hid (by unfold rRealizeScores; rw [hB]; rfl)
      have HST := Lib.hid (RI.start zs hB)
      have HBT := Lib.hid hB
      have HRF : Hid (rz (List.range zs.length).length (fun _ => 0) (fun x => zs.getD x 0) (List.range zs.length) = rzF zs) := Lib.hid (by rw [List.length_range]; rfl)
      have HFZ := Lib.hid (fz_of zs)
      have h3 := h.rowAt hbw3 (Nat.le_refl _)
      obtain ⟨bA, oA, eA, hbA, hc0⟩ := h3.int (k := 0) (by omega)
      clear hc0 HW
      subst eA
      simp only []
      clear hB h
      generalize hn' : zs.length = n at *
      have HN := Lib.hid hn'
      clear hn'
      have hmk := make_ints n (by omega)
      have hmb := make_boolsR n (by omega)
      go_wp2_with (at_builtin; refine wpList_pushAll rfl (.tmp 31) (.tmp 32) rfl (w3.heap.size + 1 + 1) (w3.heap.size + 1 + 1 + 1) w3.heap.size (some ⟨w3.heap.size + 1 + 1, 0, none⟩) (some ⟨bA, oA, none⟩) 0 0 n c [] zs rfl rfl rfl HN.out.symm ?c0 ?c1 (by omega) (by omega) (by simp) ?_)
      case c0 =>
        have h9 := Own.made ((w3.alloc (.cells (madeCells #[.int .i64 0] n) 3)).alloc (.cells #[.int .i64 (n : Int), .slice (some ⟨w3.heap.size, 0, none⟩) n n] 26)) (w3.heap.size + 1 + 1) 3 #[] (by simp) (by simp)
        rw [World.size_alloc, World.size_alloc] at h9
        exact h9
      case c1 => exact ((h3.alloc (Nat.le_refl _) _).alloc (by simp) _).alloc (by simp; omega) _
      intro As ds w5 os5 hon5
      obtain ⟨wx, hwx⟩ : ∃ wx, wx = ((w3.alloc (.cells (madeCells #[.int .i64 0] n) 3)).alloc (.cells #[.int .i64 (n : Int), .slice (some ⟨w3.heap.size, 0, none⟩) n n] 26)).alloc (.cells #[] 3) := ⟨_, rfl⟩
      rw [← hwx] at hon5
      have t0 : wx.cell? ⟨w3.heap.size + 1, 0, none⟩ = some (.int .i64 (n : Int)) := by rw [hwx]; exact (World.cell?_alloc_lt _ _ ⟨w3.heap.size + 1, 0, none⟩ (by simp)).trans (by go_simp)
      have t1 : wx.cell? ⟨w3.heap.size + 1, 1, none⟩ = some (.slice (some ⟨w3.heap.size, 0, none⟩) n n) := by rw [hwx]; exact (World.cell?_alloc_lt _ _ ⟨w3.heap.size + 1, 1, none⟩ (by simp)).trans (by go_simp)
      have hb3x : Below w3.heap.size w3 wx := by rw [hwx]; go_grown
      have hzx : wx.heap.size = w3.heap.size + 1 + 1 + 1 := by rw [hwx]; simp
      have oT : Own wx w3.heap.size (w3.heap.size + 1) 3 (some ⟨w3.heap.size, 0, none⟩) n (ints (casts (fl n fun _ => 0))) := by
        rw [hwx, ← zeros_fl', casts_zeros]
        exact ((own_made w3 w3.heap.size n (Nat.le_refl _) (by omega)).alloc (by simp) _).alloc (by simp) _
      clear hwx hmk
      obtain ⟨gs, eGs, _⟩ := os5.int (k := 0) (by rw [HN.out]; omega)
      subst eGs
      obtain ⟨os5, s1, s2, _⟩ := os5.tight
      have hz5 := hon5.size
      have t0 := (hon5.cell (p := ⟨w3.heap.size + 1, 0, none⟩) (by simp; omega) (by simp)).trans t0
      have t1 := (hon5.cell (p := ⟨w3.heap.size + 1, 1, none⟩) (by simp; omega) (by simp)).trans t1
      have oT := oT.only hon5 (by omega) (by left; omega)
      have hb35 : Below w3.heap.size w3 w5 := below_only hb3x hon5 (by omega) (by omega)
      clear hb3x hon5
      have HOS := Lib.hid os5
      have HOT := Lib.hid oT
      clear os5 oT
      go_wp2
      obtain ⟨w7, hw7⟩ : ∃ w7, w7 = w5.alloc (.cells (madeCells #[.bool false] n) 4) := ⟨_, rfl⟩
      rw [← hw7]
      have hb57 : Below w5.heap.size w5 w7 := by rw [hw7]; go_grown
      have hz7 : w7.heap.size = w5.heap.size + 1 := by rw [hw7]; simp
      have oD : Own w7 w5.heap.size (w5.heap.size + 1) 4 (some ⟨w5.heap.size, 0, none⟩) n (bl n (HD (List.range n))) := by
        rw [hw7, bl_congr n (HD (List.range n)) (fun _ => false) (fun x hx => by unfold HD; simp [hx]), ← bl_false]
        exact own_boolsR w5 w5.heap.size n (Nat.le_refl _) (by omega)
      have oT := HOT.out.below hb57 (by omega)
      have oS := HOS.out.below hb57 (by omega)
      have t0 := (hb57.cell (p := ⟨w3.heap.size + 1, 0, none⟩) (by simp; omega)).trans t0
      have t1 := (hb57.cell (p := ⟨w3.heap.size + 1, 1, none⟩) (by simp; omega)).trans t1
      have hb37 : Below w3.heap.size w3 w7 := below_trans hb35 hb57
      obtain ⟨⟨r0, r1⟩, ⟨f0, f1⟩⟩ := res_keep r0 r1 f0 f1 hb37
      have hbw7 : Below w.heap.size w w7 := below_trans hbw3 hb37
      obtain ⟨gT, hgT⟩ : ∃ g, g = w3.heap.size := ⟨_, rfl⟩
      obtain ⟨gd, hgd⟩ : ∃ g, g = w5.heap.size := ⟨_, rfl⟩
      rw [← hgT] at oT t0 t1 ⊢
      rw [← hgd] at oD ⊢
      have HAT : Hid (SAt n gT gs gd ds zs w7 w7 (fun _ => 0) (fun x => zs.getD x 0) (List.range n)) := Lib.hid ⟨HST.out, HRF.out, oT, by rw [HFZ.out]; exact oS, oD, But3.refl _ _ _ _⟩
      have g1 : gT + 2 ≤ gs := by omega
      have g2 : gs < gd := by omega
      have g4 : gd < w7.heap.size := by omega
      have g5 : w.heap.size < gT := by omega
      have HLR := Lib.hid (show (List.range n).length = n from List.length_range)
      clear hw7 hb57 hb37 hb35 HOT HOS oT oS oD HST HRF HFZ hz7 hz5 hzx hgT hgd hz3 s1 s2 hbw3 h3 hmb hbA
      go_loopw [8] (fun v wr => ∃ (r : Nat) (f : Nat → Nat) (s : Nat → Int) (l : List Nat), Hid (r + l.length = n) ∧ r ≤ n ∧ v = .int .i64 (r : Int) ∧ Hid (SAt n gT gs gd ds zs w7 wr f s l)) (fun v _ => n - (intOf v).toNat)
      case atStart => exact ⟨0, _, _, List.range n, Lib.hid (by rw [HLR.out, Nat.zero_add]), Nat.zero_le _, rfl, HAT⟩
      case round =>
        clear HAT HLR
        obtain ⟨r, f, s, l, HRL, hrn, rfl, HA⟩ := hrel
        have hszA := HA.out.but.size
        by_cases h0 : l = []
        · subst h0
          obtain rfl : r = n := by have := HRL.out; simpa using this
          have hF : Hid (f = rzF zs) := Lib.hid HA.out.goal
          have s0 := (HA.out.but.cell (p := ⟨w.heap.size, 0, none⟩) (by show w.heap.size < _; omega) (by show w.heap.size ≠ gT; omega) (by show w.heap.size ≠ gs; omega) (by show w.heap.size ≠ gd; omega)).trans r0
          have s1 := (HA.out.but.cell (p := ⟨w.heap.size, 1, none⟩) (by show w.heap.size < _; omega) (by show w.heap.size ≠ gT; omega) (by show w.heap.size ≠ gs; omega) (by show w.heap.size ≠ gd; omega)).trans r1
          have u0 := (HA.out.but.frozen (p := ⟨w.heap.size, 0, none⟩) (by show w.heap.size < _; omega) (by show w.heap.size ≠ gT; omega) (by show w.heap.size ≠ gs; omega) (by show w.heap.size ≠ gd; omega)).trans f0
          have u1 := (HA.out.but.frozen (p := ⟨w.heap.size, 1, none⟩) (by show w.heap.size < _; omega) (by show w.heap.size ≠ gT; omega) (by show w.heap.size ≠ gs; omega) (by show w.heap.size ≠ gd; omega)).trans f1
          have t0' := (HA.out.but.cell (p := ⟨gT + 1, 0, none⟩) (by show gT + 1 < _; omega) (by show gT + 1 ≠ gT; omega) (by show gT + 1 ≠ gs; omega) (by show gT + 1 ≠ gd; omega)).trans t0
          have t1' := (HA.out.but.cell (p := ⟨gT + 1, 1, none⟩) (by show gT + 1 < _; omega) (by show gT + 1 ≠ gT; omega) (by show gT + 1 ≠ gs; omega) (by show gT + 1 ≠ gd; omega)).trans t1
          have hbr : Below w.heap.size w wr := hbw7.trans (HA.out.but.below (by omega) (by omega) (by omega) (by omega))
          clear r0 r1 f0 f1 t0 t1
          go_wp2
          refine bodyPost_ret (v := .tuple #[.agg #[.int .i64 (r : Int), .slice (some ⟨gT, 0, none⟩) r r], .bool true]) (by simp [results, Try.results8, go_sem, s0, s1]) rfl ⟨some ⟨gT, 0, none⟩, r, by rw [HT.out, HR.out, casts_length, fl_length, HBT.out], ?_, ?_⟩
          · rw [HR.out, ← hF.out]
            refine Own.mono (Own.setCell (Own.setCell HA.out.oT ?_ _) ?_ _) (by omega) (by simp; omega)
            all_goals (left; show w.heap.size < gT; omega)
          · refine (hbr.setCell ?_ _).setCell ?_ _
            all_goals (show _ ≤ _; simp)
        · obtain ⟨p, os, K, RR⟩ := HA.out.inv.round h0
          have HL1 := Lib.hid (by have := sLeast_any (some ⟨gs, 0, none⟩) (some ⟨gd, 0, none⟩) ds n n s (HD l) wr (HA.out.oS.row.mono (by omega)) (HA.out.oD.row.mono (by omega)) n1 n8; rwa [RR.least1 n8] at this :
            Calls Try.prog 39 #[.slice (some ⟨gs, 0, none⟩) n ds, .slice (some ⟨gd, 0, none⟩) n n] wr fun e w' => e = .returned (.int .i64 (p : Int)) ∧ wr = w')
          have hpn := RR.pn
          have hrl : Hid (r + 1 + os.length = n) := Lib.hid (by have := HRL.out; have := RR.lenl; omega)
          have hr1 : r < n := by have := hrl.out; omega
          obtain ⟨g', e, _, _, hdp, hdf⟩ := HA.out.oD.bool hpn
          simp only [Option.some.injEq, Addr.mk.injEq, and_true] at e
          subst e
          have HD2f := Lib.hid (by have h9 := HA.out.oD.set p (.bool true); rwa [bl_set, bl_congr n _ (HD os) (fun x _ => HD_done p os l RR.perm RR.np x)] at h9 :
            Own (wr.setCell ⟨gd, p, none⟩ (.bool true)) gd (gd + 1) 4 (some ⟨gd, 0, none⟩) n (bl n (HD os)))
          go_wp2_with fail
          refine HL1.out.mono ?_
          rintro e w8 ⟨rfl, rfl⟩
          go_wp2_with (at_builtin; refine wpList_pushAllB rfl (.tmp 47) (.tmp 48) rfl wr.heap.size (wr.heap.size + 1) wr.heap.size (some ⟨wr.heap.size, 0, none⟩) (some ⟨gd, 0, none⟩) 0 0 n n [] ((List.range n).map (HD os)) rfl rfl rfl (by simp) ?c0 ?c1 (by omega) (by omega) (by simp) ?_)
          case c0 =>
            have h9 := Own.made (wr.setCell ⟨gd, p, none⟩ (.bool true)) wr.heap.size 4 #[] (by simp) (by simp)
            rw [World.size_setCell] at h9
            exact h9
          case c1 => exact (HD2f.out.row.mono (by omega)).alloc (by simp) _
          intro Ah dh w9 oh9 hon9
          have hz9 := hon9.size
          rw [World.size_alloc, World.size_setCell] at hz9
          obtain ⟨gh, eGh, q1, q2, _⟩ := oh9.at_ (k := 0) (by simp [boolsR]; omega)
          subst eGh
          obtain ⟨oh9, h1, h2, h3'⟩ := oh9.tight
          have hbt : But3 gT gs gd w7 ((wr.setCell ⟨gd, p, none⟩ (.bool true)).alloc (.cells #[] 4)) := (HA.out.but.setCell (p := ⟨gd, p, none⟩) (.inr (.inr rfl)) _).trans (But3.of_below ((Below.refl _ _).alloc (Nat.le_refl _) _))
          have hIN : Hid (SIn n gT gs gd ds gh dh w7 w9 (rT f p os K 0) s (HD os) (HD (os.drop 0))) := Lib.hid ⟨
            by rw [fl_congr n _ _ (fun x _ => rT_zero f p os K x)]; exact ((HA.out.oT.setCell (p := ⟨gd, p, none⟩) (by right; show gT + 1 ≤ gd; omega) _).alloc (by simp; omega) _).only hon9 (by simp; omega) (by left; omega),
            ((HA.out.oS.setCell (p := ⟨gd, p, none⟩) (by right; show gs + 1 ≤ gd; omega) _).alloc (by simp; omega) _).only hon9 (by simp; omega) (by left; omega),
            (HD2f.out.alloc (by simp; omega) _).only hon9 (by simp; omega) (by left; omega),
            by rw [List.drop_zero]; exact oh9,
            ⟨hon9.os.trans hbt.os, hon9.tape.trans hbt.tape, hon9.output.trans hbt.output, Nat.le_trans hbt.size hon9.size, fun g hg a b c => (hon9.block g (Nat.lt_of_lt_of_le hg hbt.size) (.inl (by omega))).trans (hbt.block g hg a b c)⟩⟩
          have HRZ : Hid (rz os.length (nT f p os K) (nS s os K) os = rzF zs) := Lib.hid (by rw [← rz_next RR]; exact HA.out.goal)
          have HRR := Lib.hid RR
          have hkl := RR.kle
          have hl8 := RR.l8
          have hh1 : gd < gh := by omega
          have hh2 : w7.heap.size ≤ gh := by omega
          have hSp := (hIN.out.oS.int (k := p) (by rw [fz_length]; exact hpn))
          obtain ⟨g', e, _, _, hsp, _⟩ := hSp
          simp only [Option.some.injEq, Addr.mk.injEq, and_true] at e
          subst e
          rw [fz_get, RR.val] at hsp
          clear HA RR HL1 HD2f hdp hdf hon9 hbt oh9 h1 h2 h3' q1 q2 hz9 h0
          go_wp2
          go_loopw [11] (fun v wr => ∃ (kk j : Nat), kk + j = K ∧ v = .int .i64 (kk : Int) ∧ Hid (SIn n gT gs gd ds gh dh w7 wr (rT f p os K j) s (HD os) (HD (os.drop j)))) (fun v _ => (intOf v).toNat)
          case atStart => exact ⟨K, 0, rfl, rfl, hIN⟩
          case round =>
            clear hIN hsp
            obtain ⟨kk, j, hkj, rfl, HI⟩ := hrel
            have hszI := HI.out.but.size
            have t0' := (HI.out.but.cell (p := ⟨gT + 1, 0, none⟩) (by show gT + 1 < _; omega) (by show gT + 1 ≠ gT; omega) (by show gT + 1 ≠ gs; omega) (by show gT + 1 ≠ gd; omega)).trans t0
            have t1' := (HI.out.but.cell (p := ⟨gT + 1, 1, none⟩) (by show gT + 1 < _; omega) (by show gT + 1 ≠ gT; omega) (by show gT + 1 ≠ gs; omega) (by show gT + 1 ≠ gd; omega)).trans t1
            by_cases hkk : 0 < kk
            · have hjo : j < os.length := by omega
              have hjK : j < K := by omega
              have hgl : gh < wr.heap.size := by
                obtain ⟨g', e, _, _, hx, _⟩ := HI.out.oH.bool hpn
                simp only [Option.some.injEq, Addr.mk.injEq, and_true] at e
                subst e
                exact World.block_lt_of_cell? wr _ hx
              have HL2 := Lib.hid (by have := sLeast_any (some ⟨gs, 0, none⟩) (some ⟨gh, 0, none⟩) ds dh n s (HD (os.drop j)) wr (HI.out.oS.row.mono (by omega)) (HI.out.oH.row.mono (by omega)) n1 n8; rwa [HRR.out.least2 n8 j hjo] at this :
                Calls Try.prog 39 #[.slice (some ⟨gs, 0, none⟩) n ds, .slice (some ⟨gh, 0, none⟩) n dh] wr fun e w' => e = .returned (.int .i64 (os[j] : Nat)) ∧ wr = w')
              have hon : os[j] < n := HRR.out.lt _ (List.getElem_mem hjo)
              obtain ⟨g', e, _, _, hhp, hhf⟩ := HI.out.oH.bool hon
              simp only [Option.some.injEq, Addr.mk.injEq, and_true] at e
              subst e
              have HH2 := Lib.hid (by have h9 := HI.out.oH.set os[j] (.bool true); rwa [bl_set, bl_congr n _ (HD (os.drop (j + 1))) (fun x _ => HD_hide os j hjo HRR.out.nd x)] at h9 :
                Own (wr.setCell ⟨gh, os[j], none⟩ (.bool true)) gh (gh + 1) 4 (some ⟨gh, 0, none⟩) dh (bl n (HD (os.drop (j + 1)))))
              obtain ⟨g', e, _, _, hTp, hTf⟩ := HI.out.oT.nat (k := p) (by rw [fl_length]; exact hpn)
              simp only [Option.some.injEq, Addr.mk.injEq, and_true] at e
              subst e
              rw [fl_get] at hTp
              have hx := rT_lt n f p os K j (by omega) (fun x hx => by have := HRR.out.lt x hx; omega) HRR.out.bndf p hpn
              have hfree := HRR.out.bit1 j hjo hjK
              have HO3f := Lib.hid (fun W' (hW : Own W' gT (gT + 1) 3 (some ⟨gT, 0, none⟩) n (ints (casts (fl n (rT f p os K j))))) => (by
                have h9 := hW.set p (.int .i64 ((rT f p os K j p ||| 2 ^ os[j] : Nat) : Int))
                rwa [ints_casts_set, rT_win n f p os K j hjo hjK] at h9 :
                Own (W'.setCell ⟨gT, p, none⟩ (.int .i64 ((rT f p os K j p ||| 2 ^ os[j] : Nat) : Int))) gT (gT + 1) 3 (some ⟨gT, 0, none⟩) n (ints (casts (fl n (rT f p os K (j + 1)))))))
              generalize os[j] = o at *
              generalize rT f p os K j p = x at *
              have E1 : (x : Int) + 2 ^ o = ((x ||| 2 ^ o : Nat) : Int) := by rw [or_add8 _ _ hx (by omega) hfree, pow_cast]; omega
              have hv : x ||| 2 ^ o < 256 := or_pow256 x o hx (by omega)
              obtain ⟨q1, q2⟩ := pow_small o (by omega)
              have hw : IntKind.i64.wrap (2 ^ o) = 2 ^ o := by rw [IntKind.wrap_i64]; omega
              generalize x ||| 2 ^ o = y at *
              have hwy : IntKind.i64.wrap (y : Int) = (y : Int) := by rw [IntKind.wrap_i64]; omega
              have hk1 : IntKind.i64.wrap ((kk : Int) - 1) = (kk : Int) - 1 := by rw [IntKind.wrap_i64]; omega
              have k0 : (0 : Int) < (kk : Int) := by omega
              clear hfree
              go_wp2_with fail
              refine HL2.out.mono ?_
              rintro e w8 ⟨rfl, rfl⟩
              have c0 : (wr.setCell ⟨gh, o, none⟩ (.bool true)).cell? ⟨gT + 1, 0, none⟩ = some (.int .i64 (n : Int)) := (World.cell?_setCell_other wr _ _ _ (fun e => by simp only [Addr.mk.injEq] at e; omega)).trans t0'
              have c1 : (wr.setCell ⟨gh, o, none⟩ (.bool true)).cell? ⟨gT + 1, 1, none⟩ = some (.slice (some ⟨gT, 0, none⟩) n n) := (World.cell?_setCell_other wr _ _ _ (fun e => by simp only [Addr.mk.injEq] at e; omega)).trans t1'
              have c2 : (wr.setCell ⟨gh, o, none⟩ (.bool true)).cell? ⟨gT, p, none⟩ = some (.int .i64 (x : Int)) := (World.cell?_setCell_other wr _ _ _ (fun e => by simp only [Addr.mk.injEq] at e; omega)).trans hTp
              have c3 : (wr.setCell ⟨gh, o, none⟩ (.bool true)).frozen? ⟨gT, p, none⟩ = false := by rw [World.frozen?_setCell]; exact hTf
              go_wp2
              clear t0' t1' hTp hTf hhp hhf
              obtain ⟨wq, hwq⟩ : ∃ wq, wq = wr.setCell ⟨gh, o, none⟩ (.bool true) := ⟨_, rfl⟩
              rw [← hwq] at HH2 c0 c1 c2 c3 ⊢
              have HTq := Lib.hid (by rw [hwq]; exact HI.out.oT.setCell (p := ⟨gh, o, none⟩) (by right; show gT + 1 ≤ gh; omega) _ : Own wq gT (gT + 1) 3 (some ⟨gT, 0, none⟩) n (ints (casts (fl n (rT f p os K j)))))
              have HSq := Lib.hid (by rw [hwq]; exact HI.out.oS.setCell (p := ⟨gh, o, none⟩) (by right; show gs + 1 ≤ gh; omega) _ : Own wq gs (gs + 1) 3 (some ⟨gs, 0, none⟩) ds (ints (fz n s)))
              have HDq := Lib.hid (by rw [hwq]; exact HI.out.oD.setCell (p := ⟨gh, o, none⟩) (by right; show gd + 1 ≤ gh; omega) _ : Own wq gd (gd + 1) 4 (some ⟨gd, 0, none⟩) n (bl n (HD os)))
              have HBq := Lib.hid (by rw [hwq]; exact HI.out.but.setNew (p := ⟨gh, o, none⟩) hh2 _ : But3 gT gs gd w7 wq)
              clear hwq HI
              go_region
              go_wp2
              go_roundw
              case rel => exact ⟨kk - 1, j + 1, by omega, by go_num, Lib.hid ⟨(HO3f.out _ HTq.out).drew, (HSq.out.setCell (p := ⟨gT, p, none⟩) (by left; show gT < gs; omega) _).drew, (HDq.out.setCell (p := ⟨gT, p, none⟩) (by left; show gT < gd; omega) _).drew, (HH2.out.setCell (p := ⟨gT, p, none⟩) (by left; show gT < gh; omega) _).drew, (HBq.out.setCell (p := ⟨gT, p, none⟩) (.inl rfl) _).drew⟩⟩
              case measure => simp [intOf]; omega
            · obtain rfl : j = K := by omega
              have HI3 : Hid (SIn n gT gs gd ds gh dh w7 wr (qT f p os j 0) (qS s os j 0) (HD os) (HD (os.drop j))) := Lib.hid ⟨by rw [← qT_zero]; exact HI.out.oT, by rw [← qS_zero]; exact HI.out.oS, HI.out.oD, HI.out.oH, HI.out.but⟩
              obtain rfl : kk = 0 := by omega
              clear HI t0' t1' hszI
              go_wp2
              go_loopw [78] (fun v wr => ∃ b : Nat, b ≤ n ∧ v = .int .i64 (b : Int) ∧ Hid (SIn n gT gs gd ds gh dh w7 wr (qT f p os j b) (qS s os j b) (HD os) (HD (os.drop j)))) (fun v _ => n - (intOf v).toNat)
              case atStart => exact ⟨0, Nat.zero_le _, rfl, HI3⟩
              case round =>
                clear HI3
                obtain ⟨b, hb, rfl, HI⟩ := hrel
                have hszI := HI.out.but.size
                have t0' := (HI.out.but.cell (p := ⟨gT + 1, 0, none⟩) (by show gT + 1 < _; omega) (by show gT + 1 ≠ gT; omega) (by show gT + 1 ≠ gs; omega) (by show gT + 1 ≠ gd; omega)).trans t0
                have t1' := (HI.out.but.cell (p := ⟨gT + 1, 1, none⟩) (by show gT + 1 < _; omega) (by show gT + 1 ≠ gT; omega) (by show gT + 1 ≠ gs; omega) (by show gT + 1 ≠ gd; omega)).trans t1
                by_cases hbn : b < n
                · obtain ⟨g', e, _, _, hhb, _⟩ := HI.out.oH.bool hbn
                  simp only [Option.some.injEq, Addr.mk.injEq, and_true] at e
                  subst e
                  cases hH : HD (os.drop j) b with
                  | true =>
                    have hnm : b ∉ os.drop j := by unfold HD at hH; simpa using hH
                    rw [hH] at hhb
                    have HI4 : Hid (SIn n gT gs gd ds gh dh w7 wr (qT f p os j (b + 1)) (qS s os j (b + 1)) (HD os) (HD (os.drop j))) := Lib.hid ⟨by rw [qT_skip n f p os j b hnm]; exact HI.out.oT, by rw [qS_skip n s os j b hnm]; exact HI.out.oS, HI.out.oD, HI.out.oH, HI.out.but⟩
                    clear hH hnm HI
                    go_wp2
                    go_roundw
                    case rel => exact ⟨b + 1, by omega, by go_num, HI4⟩
                    case measure => simp [intOf]; omega
                  | false =>
                    have hm : b ∈ os.drop j := by unfold HD at hH; simpa using hH
                    rw [hH] at hhb
                    have hmo := List.mem_of_mem_drop hm
                    have hbp : b ≠ p := fun e => HRR.out.np (e ▸ hmo)
                    have hqv : qT f p os j b b = f b := by unfold qT; simp [hbp]
                    have hsv : qS s os j b b = s b := by unfold qS; simp
                    obtain ⟨g', e, _, _, hTp, hTf⟩ := HI.out.oT.nat (k := b) (by rw [fl_length]; exact hbn)
                    simp only [Option.some.injEq, Addr.mk.injEq, and_true] at e
                    subst e
                    rw [fl_get] at hTp
                    obtain ⟨g', e, _, _, hso, hsof⟩ := HI.out.oS.int (k := b) (by rw [fz_length]; exact hbn)
                    simp only [Option.some.injEq, Addr.mk.injEq, and_true] at e
                    subst e
                    rw [fz_get] at hso
                    have hx : qT f p os j b b < 256 := by rw [hqv]; exact HRR.out.bndf b hbn
                    have hfree : (qT f p os j b b).testBit p = false := by rw [hqv]; exact HRR.out.fop b hmo
                    have hub := HRR.out.bnd b hmo
                    rw [← hsv] at hub
                    have ho3 := HI.out.oT.set b (.int .i64 ((qT f p os j b b ||| 2 ^ p : Nat) : Int))
                    rw [ints_casts_set, qT_step n f p os j b hm HRR.out.np] at ho3
                    have HO3 := Lib.hid ho3
                    have HS3f : Hid (∀ W' : World, W'.heap[gs]? = wr.heap[gs]? → Own (W'.setCell ⟨gs, b, none⟩ (.int .i64 (qS s os j b b - 1))) gs (gs + 1) 3 (some ⟨gs, 0, none⟩) ds (ints (fz n (qS s os j (b + 1))))) := Lib.hid (fun W' hW => by
                      have h9 := (HI.out.oS.keep (w' := W') (fun g h1 h2 => by obtain rfl : g = gs := by omega
                                                                               exact hW)).set b (.int .i64 (qS s os j b b - 1))
                      rwa [ints_setz', qS_step n s os j b hm] at h9)
                    clear ho3 hqv hsv hm hH hmo hbp
                    generalize qT f p os j b b = x at *
                    generalize qS s os j b b = u at *
                    have E1 : (x : Int) + 2 ^ p = ((x ||| 2 ^ p : Nat) : Int) := by rw [or_add8 _ _ hx (by omega) hfree, pow_cast]; omega
                    have hv : x ||| 2 ^ p < 256 := or_pow256 x p hx (by omega)
                    obtain ⟨q1, q2⟩ := pow_small p (by omega)
                    have hw : IntKind.i64.wrap (2 ^ p) = 2 ^ p := by rw [IntKind.wrap_i64]; omega
                    generalize x ||| 2 ^ p = y at *
                    have hwy : IntKind.i64.wrap (y : Int) = (y : Int) := by rw [IntKind.wrap_i64]; omega
                    have hw2 : IntKind.i64.wrap (u - 1) = u - 1 := by rw [IntKind.wrap_i64]; omega
                    have hne1 : gs ≠ gT := by omega
                    have hso2 : ((wr.setCell ⟨gT, b, none⟩ (.int .i64 (y : Int))).drew).cell? ⟨gs, b, none⟩ = some (.int .i64 u) := (World.cell?_setCell_other wr _ _ _ (fun e => by simp only [Addr.mk.injEq] at e; omega)).trans hso
                    have hsof2 : ((wr.setCell ⟨gT, b, none⟩ (.int .i64 (y : Int))).drew).frozen? ⟨gs, b, none⟩ = false := by
                      show (wr.setCell ⟨gT, b, none⟩ (.int .i64 (y : Int))).frozen? ⟨gs, b, none⟩ = false
                      rw [World.frozen?_setCell]; exact hsof
                    clear hfree
                    go_wp2
                    go_region
                    go_wp2
                    go_roundw
                    case rel => exact ⟨b + 1, by omega, by go_num, Lib.hid ⟨HO3.out.drew.setCell (p := ⟨gs, b, none⟩) (by right; show gT + 1 ≤ gs; omega) _, HS3f.out _ (Below.heap_setCell wr ⟨gT, b, none⟩ _ gs hne1), ((HI.out.oD.setCell (p := ⟨gT, b, none⟩) (by left; show gT < gd; omega) _).drew).setCell (p := ⟨gs, b, none⟩) (by left; show gs < gd; omega) _, ((HI.out.oH.setCell (p := ⟨gT, b, none⟩) (by left; show gT < gh; omega) _).drew).setCell (p := ⟨gs, b, none⟩) (by left; show gs < gh; omega) _, (HI.out.but.setCell (p := ⟨gT, b, none⟩) (.inl rfl) _).drew.setCell (p := ⟨gs, b, none⟩) (.inr (.inl rfl)) _⟩⟩
                    case measure => simp [intOf]; omega
                · obtain rfl : b = n := by omega
                  have HA2 : Hid (SAt b gT gs gd ds zs w7 wr (nT f p os j) (nS s os j) os) := Lib.hid ⟨HRR.out.next, HRZ.out, by rw [← qT_end b f p os j hkl]; exact HI.out.oT, by rw [← qS_end b s os j]; exact HI.out.oS, HI.out.oD, HI.out.but⟩
                  clear HI
                  go_wp2
                  go_roundw
                  case rel => exact ⟨r + 1, _, _, os, hrl, by omega, by go_num, HA2⟩
                  case measure => simp [intOf]; omega
  · have HB : bRealizeScores zs = false := by
      cases hB : bRealizeScores zs with
      | false => rfl
      | true => exact absurd (bReal_len hB) hn
    have HT : Hid (tRealizeScores zs = 0) := Lib.hid (by unfold tRealizeScores; rw [HB]; rfl)
    have HR : Hid (rRealizeScores zs = []) := Lib.hid (by unfold rRealizeScores; rw [HB]; rfl)
    have HBH := Lib.hid HB
    have HW := Lib.hid (fun W' => sIn_no (zs.length : Int) 1 8 W' (by omega))
    clear HB hn
    go_enter Try.func8, Try.ntmps8
    go_wp2_with fail
    refine (HW.out _).mono ?_
    rintro e w1 ⟨rfl, rfl⟩
    go_wp2
    refine bodyPost_ret (v := .tuple #[.agg #[.int .i64 0, .slice none 0 0], .bool false]) (by simp [results, Try.results8, go_sem]) rfl (newTourOk_none HT.out HR.out (by first | rfl | exact HBH.out) ?_)
    go_grown
end Go.Proofs.Ytaocjjocncoahaa
