/- RealizeScores, walked on the program's side. -/
import Derived.Test.YtaocjjocncoahaaMg9
import Derived.Test.YtaocjjocncoahaaMg11
import Derived.Test.YtaocjjocncoahaaMg5
import Derived.Test.YtaocjjocncoahaaFlip
import Derived.Test.YtaocjjocncoahaaScore
namespace Go.Proofs.Ytaocjjocncoahaa
open Go.RowKit

def slLen : Value → Nat
  | .slice _ n _ => n
  | _ => 0
theorem zeros_fl (n : Nat) : List.replicate n 0 = fl n (fun _ => 0) := by
  unfold fl
  rw [List.map_const', List.length_range]
/-- What stands between two rounds. -/
structure RealAt (n gT gs gl off ds : Nat) (zs : List Int) (w7 wr : World) (f : Nat → Nat) (s : Nat → Int) (l : List Nat) : Prop where
  inv : RI n f s l
  goal : rz l.length f s l = rzF zs
  oT : Own wr gT (gT + 1) 3 (some ⟨gT, 0, none⟩) n (ints (casts (fl n f)))
  oS : Own wr gs (gs + 1) 3 (some ⟨gs, 0, none⟩) ds (ints (fz n s))
  oL : OwnO wr gl (gl + 1) gl off l
  but : But3 gT gs gl w7 wr
/-- What stands within a round, when i of the others have been dealt with. -/
structure RealIn (n gT gs gl off ds : Nat) (w7 wr : World) (f : Nat → Nat) (s : Nat → Int) (p : Nat) (os : List Nat) (K i : Nat) : Prop where
  oT : Own wr gT (gT + 1) 3 (some ⟨gT, 0, none⟩) n (ints (casts (fl n (rT f p os K i))))
  oS : Own wr gs (gs + 1) 3 (some ⟨gs, 0, none⟩) ds (ints (fz n (rS s os K i)))
  oL : OwnO wr gl (gl + 1) gl off os
  but : But3 gT gs gl w7 wr
theorem OwnO.nilAt {w : World} {lo hi ga off off' : Nat} (h : OwnO w lo hi ga off []) : OwnO w lo hi ga off' [] := by
  obtain ⟨a, b, cur, hb, _⟩ := h
  exact ⟨a, b, cur, hb, fun k v hk => by simp at hk⟩
theorem ints_setz (zs : List Int) (k : Nat) (z : Int) : (ints zs).set k (.int .i64 z) = ints (zs.set k z) := by
  unfold ints
  rw [List.map_set]
set_option maxRecDepth 20000 in
set_option maxHeartbeats 2000000 in
theorem iRealizeScores_any (A : Option Addr) (c : Nat) (zs : List Int) (w : World) (h : Row w w.heap.size A (ints zs)) (hl : zs.length ≤ 1048577) :
    Calls Try.prog 10 #[.slice A zs.length c] w (NewTourOk w (tRealizeScores zs) (rRealizeScores zs) (bRealizeScores zs)) := by
  have HC := Lib.hid (cloneAll_any A c zs (w.alloc (.cells #[.int .i64 0, .slice none 0 0] 26)) ((h.alloc (Nat.le_refl _) _).mono (by simp)) (by omega))
  go_enter Try.func10, Try.ntmps10
  go_wp2_with fail
  refine HC.out.mono ?_
  rintro e w1 ⟨G, d, rfl, ho, hb1⟩
  obtain ⟨r0, r1, f0, f1⟩ := boxed_over hb1
  have hbw1 : Below w.heap.size w w1 := Below.trans (by go_grown) (hb1.mono (by simp))
  have hz1 : w.heap.size + 1 ≤ w1.heap.size := by have := hb1.size; simpa using this
  have HS := Lib.hid (sortAll_any _ _ G d zs w1 ho (Nat.le_refl _) (by omega))
  clear ho hb1 HC
  go_wp2_with fail
  refine HS.out.mono ?_
  rintro e w2 ⟨rfl, ho2, hon⟩
  rw [World.size_alloc] at ho2 hon
  have r0 := (hon.cell (p := ⟨w.heap.size, 0, none⟩) (by simp; omega) (by simp)).trans r0
  have r1 := (hon.cell (p := ⟨w.heap.size, 1, none⟩) (by simp; omega) (by simp)).trans r1
  have f0 := (hon.frozen (p := ⟨w.heap.size, 0, none⟩) (by simp; omega) (by simp)).trans f0
  have f1 := (hon.frozen (p := ⟨w.heap.size, 1, none⟩) (by simp; omega) (by simp)).trans f1
  have hbw2 : Below w.heap.size w w2 := below_only hbw1 hon (by omega) (by omega)
  have hz2 : w.heap.size + 1 ≤ w2.heap.size := by have := hon.size; omega
  have HI := Lib.hid (by have := iIsLandau_any G d (sortL zs) w2 (ho2.row.mono (by have := hon.size; omega)) (by rw [sortL_length]; omega); rwa [sortL_length] at this :
    Calls Try.prog 20 #[.slice G zs.length d] w2 fun e w' => e = .returned (.bool (rIsLandau (sortL zs))) ∧ Below w2.heap.size w2 w')
  clear ho2 hbw1 HS hon
  go_wp2_with fail
  refine HI.out.mono ?_
  rintro e w3 ⟨rfl, hb3⟩
  obtain ⟨⟨r0, r1⟩, ⟨f0, f1⟩⟩ := res_keep r0 r1 f0 f1 hb3
  have hbw3 : Below w.heap.size w w3 := below_trans hbw2 hb3
  have hz3 : w.heap.size + 1 ≤ w3.heap.size := by have := hb3.size; omega
  rw [show rIsLandau (sortL zs) = bRealizeScores zs from rfl]
  clear hbw2 hb3 hz1 hz2 HI
  cases hB : bRealizeScores zs with
  | false =>
    have HT : Hid (tRealizeScores zs = 0) := Lib.hid (by unfold tRealizeScores; rw [hB]; rfl)
    have HR : Hid (rRealizeScores zs = []) := Lib.hid (by unfold rRealizeScores; rw [hB]; rfl)
    have HBH := Lib.hid hB
    clear hB
    go_wp2
    refine bodyPost_ret (v := .tuple #[.agg #[.int .i64 0, .slice none 0 0], .bool false]) (by simp [results, Try.results10, go_sem, r0, r1]) rfl (newTourOk_none HT.out HR.out (by first | rfl | exact HBH.out) ?_)
    refine (hbw3.setCell ?_ _).setCell ?_ _
    all_goals (show _ ≤ _; simp)
  | true =>
    obtain ⟨n1, n8⟩ := bReal_len hB
    have HT : Hid (tRealizeScores zs = (zs.length : Int)) := Lib.hid (by unfold tRealizeScores; rw [hB]; rfl)
    have HR : Hid (rRealizeScores zs = casts (fl zs.length (rzF zs))) := Lib.hid (by unfold rRealizeScores; rw [hB]; rfl)
    have HST := Lib.hid (RI.start zs hB)
    have HBT := Lib.hid hB
    have HRF : Hid (rz (List.range zs.length).length (fun _ => 0) (fun x => zs.getD x 0) (List.range zs.length) = rzF zs) := Lib.hid (by rw [List.length_range]; rfl)
    have HFZ := Lib.hid (fz_of zs)
    have h3 := h.rowAt hbw3 (Nat.le_refl _)
    have HCL := Lib.hid (fun W' hr => cloneAll_any A c zs W' hr (by omega))
    clear hB h
    generalize hn : zs.length = n at *
    have HN := Lib.hid hn
    clear hn
    have hmk := make_ints n (by omega)
    go_wp2_with fail
    obtain ⟨w4, hw4⟩ : ∃ w4, w4 = (w3.alloc (.cells (madeCells #[.int .i64 0] n) 3)).alloc (.cells #[.int .i64 (n : Int), .slice (some ⟨w3.heap.size, 0, none⟩) n n] 26) := ⟨_, rfl⟩
    rw [← hw4]
    have t0 : w4.cell? ⟨w3.heap.size + 1, 0, none⟩ = some (.int .i64 (n : Int)) := by rw [hw4]; go_simp
    have t1 : w4.cell? ⟨w3.heap.size + 1, 1, none⟩ = some (.slice (some ⟨w3.heap.size, 0, none⟩) n n) := by rw [hw4]; go_simp
    have hb34 : Below w3.heap.size w3 w4 := by rw [hw4]; go_grown
    have hz4 : w4.heap.size = w3.heap.size + 2 := by rw [hw4]; simp
    have oT : Own w4 w3.heap.size (w3.heap.size + 1) 3 (some ⟨w3.heap.size, 0, none⟩) n (ints (casts (fl n fun _ => 0))) := by
      rw [hw4, ← zeros_fl, casts_zeros]
      exact (own_made w3 w3.heap.size n (Nat.le_refl _) (by omega)).alloc (by simp) _
    clear hw4 hmk
    refine (HCL.out _ (h3.rowAt hb34 (Nat.le_refl _))).mono ?_
    rintro e w5 ⟨Gs, ds, rfl, os5, hb5⟩
    rw [HN.out]
    clear HCL
    go_wp2_with fail
    refine (indices_any n w5 n8).mono ?_
    rintro e w6 ⟨Gl, dl, rfl, ol6, hb6⟩
    rw [show (casts (upTo n)).length = n by rw [casts_length, upTo_length]]
    go_wp2
    obtain ⟨gs, eGs, _⟩ := os5.int (k := 0) (by rw [HN.out]; omega)
    subst eGs
    obtain ⟨gl, eGl, _⟩ := ol6.nat (k := 0) (by rw [upTo_length]; omega)
    subst eGl
    obtain ⟨os5, s1, s2, _⟩ := os5.tight
    have hcap := ol6.cap
    rw [ints_length, casts_length, upTo_length] at hcap
    obtain ⟨ol6, l1, l2, l3⟩ := ol6.tight
    have oL := OwnO.of ol6
    have hz5 := hb5.size
    have hz6 := hb6.size
    obtain ⟨w7, hw7⟩ : ∃ w7, w7 = w6.alloc (.cells #[.slice (some ⟨gs, 0, none⟩) n ds] 24) := ⟨_, rfl⟩
    rw [← hw7]
    have hz7 : w7.heap.size = w6.heap.size + 1 := by rw [hw7]; simp
    have hb67 : Below w6.heap.size w6 w7 := by rw [hw7]; go_grown
    have b0 : w7.cell? ⟨w6.heap.size, 0, none⟩ = some (.slice (some ⟨gs, 0, none⟩) n ds) := by rw [hw7]; go_simp
    have hb47 : Below w4.heap.size w4 w7 := below_trans hb5 (below_trans hb6 hb67)
    have oT := oT.below hb47 (by omega)
    have oS := os5.below (below_trans hb6 hb67) (by omega)
    have oL := oL.below hb67 (by omega)
    have t0 := (hb47.cell (p := ⟨w3.heap.size + 1, 0, none⟩) (by simp; omega)).trans t0
    have t1 := (hb47.cell (p := ⟨w3.heap.size + 1, 1, none⟩) (by simp; omega)).trans t1
    have hb37 : Below w3.heap.size w3 w7 := below_trans hb34 hb47
    obtain ⟨⟨r0, r1⟩, ⟨f0, f1⟩⟩ := res_keep r0 r1 f0 f1 hb37
    have hbw7 : Below w.heap.size w w7 := below_trans hbw3 hb37
    have HAT : Hid (RealAt n w3.heap.size gs gl 0 ds zs w7 w7 (fun _ => 0) (fun x => zs.getD x 0) (List.range n)) := Lib.hid ⟨HST.out, HRF.out, oT, by rw [HFZ.out]; exact oS, oL, But3.refl _ _ _ _⟩
    obtain ⟨gT, hgT⟩ : ∃ g, g = w3.heap.size := ⟨_, rfl⟩
    obtain ⟨bs, hbs⟩ : ∃ g, g = w6.heap.size := ⟨_, rfl⟩
    have hL : (List.range n).length = n := List.length_range
    rw [← hgT] at HAT t0 t1 ⊢
    rw [← hbs] at b0 ⊢
    have g1 : gT + 2 ≤ gs := by omega
    have g2 : gs < gl := by omega
    have g3 : gl < bs := by omega
    have g4 : bs < w7.heap.size := by omega
    have g5 : w.heap.size < gT := by omega
    clear hw7 hb67 hb47 hb37 hb34 hb5 hb6 oT oS oL os5 ol6 HST HRF HFZ hz4 hz5 hz6 hz7 hgT hbs hz3 s1 s2 l1 l2 l3 hbw3 h3
    go_loopw [7] (fun v wr => ∃ (off cl : Nat) (f : Nat → Nat) (s : Nat → Int) (l : List Nat), v = .slice (some ⟨gl, off, none⟩) l.length cl ∧ l.length ≤ cl ∧ cl ≤ maxLen ∧ Hid (RealAt n gT gs gl off ds zs w7 wr f s l)) (fun v _ => slLen v)
    case atStart => exact ⟨0, dl, _, _, List.range n, by rw [hL], by rw [hL]; exact hcap.1, hcap.2, HAT⟩
    case round =>
      clear HAT hL hcap
      obtain ⟨off, cl, f, s, l, rfl, hcl, hcm, HA⟩ := hrel
      by_cases h0 : l = []
      · subst h0
        have hF : Hid (f = rzF zs) := Lib.hid HA.out.goal
        have hszA := HA.out.but.size
        have s0 := (HA.out.but.cell (p := ⟨w.heap.size, 0, none⟩) (by show w.heap.size < _; omega) (by show w.heap.size ≠ gT; omega) (by show w.heap.size ≠ gs; omega) (by show w.heap.size ≠ gl; omega)).trans r0
        have s1 := (HA.out.but.cell (p := ⟨w.heap.size, 1, none⟩) (by show w.heap.size < _; omega) (by show w.heap.size ≠ gT; omega) (by show w.heap.size ≠ gs; omega) (by show w.heap.size ≠ gl; omega)).trans r1
        have u0 := (HA.out.but.frozen (p := ⟨w.heap.size, 0, none⟩) (by show w.heap.size < _; omega) (by show w.heap.size ≠ gT; omega) (by show w.heap.size ≠ gs; omega) (by show w.heap.size ≠ gl; omega)).trans f0
        have u1 := (HA.out.but.frozen (p := ⟨w.heap.size, 1, none⟩) (by show w.heap.size < _; omega) (by show w.heap.size ≠ gT; omega) (by show w.heap.size ≠ gs; omega) (by show w.heap.size ≠ gl; omega)).trans f1
        have t0' := (HA.out.but.cell (p := ⟨gT + 1, 0, none⟩) (by show gT + 1 < _; omega) (by show gT + 1 ≠ gT; omega) (by show gT + 1 ≠ gs; omega) (by show gT + 1 ≠ gl; omega)).trans t0
        have t1' := (HA.out.but.cell (p := ⟨gT + 1, 1, none⟩) (by show gT + 1 < _; omega) (by show gT + 1 ≠ gT; omega) (by show gT + 1 ≠ gs; omega) (by show gT + 1 ≠ gl; omega)).trans t1
        have hbr : Below w.heap.size w wr := hbw7.trans (HA.out.but.below (by omega) (by omega) (by omega) (by omega))
        clear r0 r1 f0 f1 t0 t1
        go_wp2
        refine bodyPost_ret (v := .tuple #[.agg #[.int .i64 (n : Int), .slice (some ⟨gT, 0, none⟩) n n], .bool true]) (by simp [results, Try.results10, go_sem, s0, s1]) rfl ⟨some ⟨gT, 0, none⟩, n, by rw [HT.out, HR.out, casts_length, fl_length, HBT.out], ?_, ?_⟩
        · rw [HR.out, ← hF.out]
          refine Own.mono (Own.setCell (Own.setCell HA.out.oT ?_ _) ?_ _) (by omega) (by simp; omega)
          all_goals (left; show w.heap.size < gT; omega)
        · refine (hbr.setCell ?_ _).setCell ?_ _
          all_goals (show _ ≤ _; simp)
      · obtain ⟨p, os, K, RR⟩ := HA.out.inv.round h0
        have hpred : PredCmpO 43 #[.pointer (some ⟨bs, 0, none⟩)] (cmpP s) gl (gl + 1) n wr := by
          intro W x y hO hx hy
          refine realCmp_any bs (some ⟨gs, 0, none⟩) ds n s x y W ?_ ?_ hx hy n8
          · exact (hO.cell (p := ⟨bs, 0, none⟩) (by have := HA.out.but.size; show bs < _; omega) (by right; show gl + 1 ≤ bs; omega)).trans ((HA.out.but.cell (p := ⟨bs, 0, none⟩) g4 (by show bs ≠ gT; omega) (by show bs ≠ gs; omega) (by show bs ≠ gl; omega)).trans b0)
          · exact (HA.out.oS.only hO (by have := HA.out.but.size; omega) (by left; omega)).row.mono (by have := HA.out.but.size; have := hO.size; omega)
        have HSF := Lib.hid (sortFuncO_any 43 #[.pointer (some ⟨bs, 0, none⟩)] (enters_of Try.func43 (by kernel_rfl) rfl) (cmpP s) (ky s) n gl off cl gl (gl + 1) l wr hpred (fun x y hx hy => cmpP_key s x y (by omega) (by omega)) HA.out.inv.lt HA.out.oL
          (by have := HA.out.but.size; omega) (by rw [RR.lenl]; omega) (by have := RR.lenl; have := RR.l8; omega))
        clear hpred
        rw [RR.lenl] at hcl
        have HSF := Lib.hid (by have := HSF.out; rwa [RR.lenl] at this : Calls Try.prog 46 #[.slice (some ⟨gl, off, none⟩) (os.length + 1) cl, .func (.func 43) #[] #[.pointer (some ⟨bs, 0, none⟩)]] wr (SortedO wr gl (gl + 1) gl off (ky s) l))
        rw [RR.lenl]
        have hp0 : (0 : Int) < ((os.length + 1 : Nat) : Int) := by omega
        go_wp2_with fail
        (with_reducible refine HSF.out.mono ?_)
        rintro e w8 ⟨rfl, L, hp, ha, hoL, hon8⟩
        have hpl := hp.length_eq
        obtain rfl : L = p :: os := by
          rw [← RR.srt]
          exact srt_is s l L hp HA.out.inv.h16 (fun a b hab hbl => ha a b hab (by omega))
        have hn0 : w8.cell? ⟨gl, off, none⟩ = some (.int .i64 (p : Int)) := (hoL.nat (k := 0) (by simp)).1
        have hsz8 := hon8.size
        have hszA := HA.out.but.size
        have hINf : Hid (∀ o', o' = off + 1 ∨ os = [] → RealIn n gT gs gl o' ds w7 w8 f s p os K 0) := Lib.hid fun o' ho' => ⟨
          by rw [fl_congr n _ _ (fun x _ => rT_zero f p os K x)]; exact HA.out.oT.only hon8 (by omega) (by left; omega),
          by rw [fz_congr n _ _ (fun x _ => rS_zero s os K x)]; exact HA.out.oS.only hon8 (by omega) (by left; omega),
          by rcases ho' with rfl | e; exact hoL.tail; subst e; exact hoL.tail.nilAt, HA.out.but.trans (But3.of_only hon8 (fun g h1 h2 => .inr (.inr (by omega))))⟩
        have HRZ : Hid (rz os.length (nT f p os K) (nS s os K) os = rzF zs) := Lib.hid (by rw [← rz_next RR]; exact HA.out.goal)
        have HRR := Lib.hid RR
        have hpn := RR.pn
        have hkl := RR.kle
        have hl8 := RR.l8
        clear HSF hp ha hoL hon8 HA RR hpl h0
        generalize hm : os.length = m at *
        have HM := Lib.hid hm
        clear hm
        have c1 : (1 : Int) ≤ (m : Int) + 1 := by omega
        have c2 : (m : Int) + 1 ≤ (cl : Int) := by omega
        by_cases hc1 : cl = 1
        · have hIN := Lib.hid (hINf.out off (.inr (List.eq_nil_of_length_eq_zero (by rw [HM.out]; omega))))
          have hm0 : m = 0 := by omega
          have HM0 := Lib.hid hm0
          clear hINf
          go_wp2
          go_loopw [45] (fun v wr => ∃ i : Nat, i ≤ m ∧ v = .int .i64 (i : Int) ∧ Hid (RealIn n gT gs gl off ds w7 wr f s p os K i)) (fun v _ => m - (intOf v).toNat)
          case atStart => exact ⟨0, Nat.zero_le _, rfl, hIN⟩
          case round =>
            clear hIN hn0
            obtain ⟨i, hi, rfl, HI⟩ := hrel
            by_cases hlt : i < m
            · omega
            · obtain rfl : i = m := by omega
              clear hm0
              have HN2 : Hid (RealAt n gT gs gl off ds zs w7 wr (nT f p os K) (nS s os K) os) := Lib.hid ⟨HRR.out.next, by rw [HM.out]; exact HRZ.out, by unfold nT; rw [HM.out]; exact HI.out.oT, by unfold nS; rw [HM.out]; exact HI.out.oS, HI.out.oL, HI.out.but⟩
              go_wp2
              go_roundw
              case rel => exact ⟨off, 0, _, _, os, by rw [HM.out, HM0.out], by rw [HM.out, HM0.out]; exact Nat.le_refl _, by omega, HN2⟩
              case measure => (have h9 := HM.out); simp [slLen] <;> omega
        · have hIN := Lib.hid (hINf.out (off + 1) (.inl rfl))
          clear hINf
          go_wp2
          go_loopw [45] (fun v wr => ∃ i : Nat, i ≤ m ∧ v = .int .i64 (i : Int) ∧ Hid (RealIn n gT gs gl (off + 1) ds w7 wr f s p os K i)) (fun v _ => m - (intOf v).toNat)
          case atStart => exact ⟨0, Nat.zero_le _, rfl, hIN⟩
          case round =>
            clear hIN hn0
            obtain ⟨i, hi, rfl, HI⟩ := hrel
            by_cases hlt : i < m
            · have hio : i < os.length := by rw [HM.out]; exact hlt
              have hoi : wr.cell? ⟨gl, (off + 1) + i, none⟩ = some (.int .i64 (os[i] : Nat)) := (HI.out.oL.nat hio).1
              have hon : os[i] < n := HRR.out.lt _ (List.getElem_mem hio)
              have hsx : rS s os K i p = (K : Int) := by unfold rS; rw [if_neg (fun hm => HRR.out.np (List.mem_of_mem_take (List.mem_of_mem_drop hm))), HRR.out.val]
              obtain ⟨g', e, _, _, hsp, hsf⟩ := HI.out.oS.int (k := p) (by rw [fz_length]; exact hpn)
              simp only [Option.some.injEq, Addr.mk.injEq, and_true] at e
              subst e
              rw [fz_get, hsx] at hsp
              have b1 := (HI.out.but.cell (p := ⟨bs, 0, none⟩) g4 (by show bs ≠ gT; omega) (by show bs ≠ gs; omega) (by show bs ≠ gl; omega)).trans b0
              have t0' := (HI.out.but.cell (p := ⟨gT + 1, 0, none⟩) (by show gT + 1 < _; omega) (by show gT + 1 ≠ gT; omega) (by show gT + 1 ≠ gs; omega) (by show gT + 1 ≠ gl; omega)).trans t0
              have t1' := (HI.out.but.cell (p := ⟨gT + 1, 1, none⟩) (by show gT + 1 < _; omega) (by show gT + 1 ≠ gT; omega) (by show gT + 1 ≠ gs; omega) (by show gT + 1 ≠ gl; omega)).trans t1
              have hszr := HI.out.but.size
              by_cases hK : i < K
              · obtain ⟨g', e, _, _, hTp, hTf⟩ := HI.out.oT.nat (k := p) (by rw [fl_length]; exact hpn)
                simp only [Option.some.injEq, Addr.mk.injEq, and_true] at e
                subst e
                rw [fl_get] at hTp
                have hx := rT_lt n f p os K i (by omega) (fun x hx => by have := HRR.out.lt x hx; omega) HRR.out.bndf p hpn
                have ho3 := HI.out.oT.set p (.int .i64 ((rT f p os K i p ||| 2 ^ os[i] : Nat) : Int))
                rw [ints_casts_set, rT_win n f p os K i hio hK] at ho3
                have hst : Hid (fz n (rS s os K (i + 1)) = fz n (rS s os K i)) := Lib.hid (rS_win n s os K i hK)
                have HO3 := Lib.hid ho3
                generalize os[i] = o at *
                generalize rT f p os K i p = x at *
                have E1 : bits .or .i64 (x : Int) ((2 : Int) ^ o) = ((x ||| 2 ^ o : Nat) : Int) := by rw [or_pow' o x (by omega) hx, Nat.or_comm]
                obtain ⟨q1, q2⟩ := pow_small o (by omega)
                have hw : IntKind.i64.wrap (2 ^ o) = 2 ^ o := by rw [IntKind.wrap_i64]; omega
                have hlK : (i : Int) < (K : Int) := by omega
                generalize x ||| 2 ^ o = y at *
                clear ho3 hsx
                go_wp2
                go_region
                go_wp2
                go_roundw
                case rel => exact ⟨i + 1, by omega, by go_num, Lib.hid ⟨HO3.out.drew, by rw [hst.out]; exact (HI.out.oS.setCell (p := ⟨gT, p, none⟩) (by left; show gT < gs; omega) _).drew, (HI.out.oL.setCell (p := ⟨gT, p, none⟩) (by show gT ≠ gl; omega) _).drew, (HI.out.but.setCell (p := ⟨gT, p, none⟩) (.inl rfl) _).drew⟩⟩
                case measure => simp [intOf]; omega
              · obtain ⟨g', e, _, _, hTp, hTf⟩ := HI.out.oT.nat (k := os[i]) (by rw [fl_length]; exact hon)
                simp only [Option.some.injEq, Addr.mk.injEq, and_true] at e
                subst e
                rw [fl_get] at hTp
                obtain ⟨g', e, _, _, hso, hsof⟩ := HI.out.oS.int (k := os[i]) (by rw [fz_length]; exact hon)
                simp only [Option.some.injEq, Addr.mk.injEq, and_true] at e
                subst e
                rw [fz_get] at hso
                have hx := rT_lt n f p os K i (by omega) (fun x hx => by have := HRR.out.lt x hx; omega) HRR.out.bndf os[i] hon
                have ho3 := HI.out.oT.set os[i] (.int .i64 ((rT f p os K i os[i] ||| 2 ^ p : Nat) : Int))
                rw [ints_casts_set, rT_lose n f p os K i HRR.out.nd HRR.out.np hio (by omega)] at ho3
                have hu : rS s os K i os[i] = s os[i] := by unfold rS; rw [if_neg (os_not HRR.out.nd hio K)]
                have hub := HRR.out.bnd _ (List.getElem_mem hio)
                rw [← hu] at hub
                have HO3 := Lib.hid ho3
                have HS3f : Hid (∀ W' : World, W'.heap[gs]? = wr.heap[gs]? → Own (W'.setCell ⟨gs, os[i], none⟩ (.int .i64 (rS s os K i os[i] - 1))) gs (gs + 1) 3 (some ⟨gs, 0, none⟩) ds (ints (fz n (rS s os K (i + 1))))) := Lib.hid (fun W' hW => by
                  have h9 := (HI.out.oS.keep (w' := W') (fun g h1 h2 => by obtain rfl : g = gs := by omega
                                                                           exact hW)).set os[i] (.int .i64 (rS s os K i os[i] - 1))
                  rwa [ints_setz, rS_lose n s os K i HRR.out.nd hio (by omega)] at h9)
                clear ho3 hu hsx
                generalize os[i] = o at *
                generalize rT f p os K i o = x at *
                generalize rS s os K i o = u at *
                have E1 : bits .or .i64 (x : Int) ((2 : Int) ^ p) = ((x ||| 2 ^ p : Nat) : Int) := by rw [or_pow' p x (by omega) hx, Nat.or_comm]
                obtain ⟨q1, q2⟩ := pow_small p (by omega)
                have hw : IntKind.i64.wrap (2 ^ p) = 2 ^ p := by rw [IntKind.wrap_i64]; omega
                have hlK : ¬ (i : Int) < (K : Int) := by omega
                generalize x ||| 2 ^ p = y at *
                have hw2 : IntKind.i64.wrap (u - 1) = u - 1 := by rw [IntKind.wrap_i64]; omega
                have hne1 : gs ≠ gT := by omega
                have hne2 : bs ≠ gT := by omega
                go_wp2
                go_region
                have b2 : ((wr.setCell ⟨gT, o, none⟩ (.int .i64 (y : Int))).drew).cell? ⟨bs, 0, none⟩ = some (.slice (some ⟨gs, 0, none⟩) n ds) := (World.cell?_setCell_other wr _ _ _ (fun e => by simp only [Addr.mk.injEq] at e; omega)).trans b1
                have hso2 : ((wr.setCell ⟨gT, o, none⟩ (.int .i64 (y : Int))).drew).cell? ⟨gs, o, none⟩ = some (.int .i64 u) := (World.cell?_setCell_other wr _ _ _ (fun e => by simp only [Addr.mk.injEq] at e; omega)).trans hso
                have hsof2 : ((wr.setCell ⟨gT, o, none⟩ (.int .i64 (y : Int))).drew).frozen? ⟨gs, o, none⟩ = false := by
                  show (wr.setCell ⟨gT, o, none⟩ (.int .i64 (y : Int))).frozen? ⟨gs, o, none⟩ = false
                  rw [World.frozen?_setCell]; exact hsof
                go_wp2
                go_roundw
                case rel => exact ⟨i + 1, by omega, by go_num, Lib.hid ⟨HO3.out.drew.setCell (p := ⟨gs, o, none⟩) (by right; show gT + 1 ≤ gs; omega) _, HS3f.out _ (Below.heap_setCell wr ⟨gT, o, none⟩ _ gs hne1), ((HI.out.oL.setCell (p := ⟨gT, o, none⟩) (by show gT ≠ gl; omega) _).drew).setCell (p := ⟨gs, o, none⟩) (by show gs ≠ gl; omega) _, (HI.out.but.setCell (p := ⟨gT, o, none⟩) (.inl rfl) _).drew.setCell (p := ⟨gs, o, none⟩) (.inr (.inl rfl)) _⟩⟩
                case measure => simp [intOf]; omega
            · obtain rfl : i = m := by omega
              have HN2 : Hid (RealAt n gT gs gl (off + 1) ds zs w7 wr (nT f p os K) (nS s os K) os) := Lib.hid ⟨HRR.out.next, by rw [HM.out]; exact HRZ.out, by unfold nT; rw [HM.out]; exact HI.out.oT, by unfold nS; rw [HM.out]; exact HI.out.oS, HI.out.oL, HI.out.but⟩
              go_wp2
              go_roundw
              case rel => exact ⟨(off + 1), (cl - 1), _, _, os, by rw [HM.out], by rw [HM.out]; omega, by omega, HN2⟩
              case measure => (have h9 := HM.out); simp [slLen] <;> omega
end Go.Proofs.Ytaocjjocncoahaa
