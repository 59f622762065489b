/- Drawing a tour from bytes: l05Draw, MakeTour, walked (printed by tools/make2.py). MakeTour, walked. -/
import Derived.Test.YtaocjjocncoahaaMake
namespace Go.Proofs.Ytaocjjocncoahaa
open Go.RowKit

theorem But3.set2 {b q : Nat} {w w' : World} (h : But3 b b b w w') (hq : w.heap.size ≤ q) (u0 u1 : Value) : But3 b b b w ((w'.setCell ⟨q, 0, none⟩ u0).setCell ⟨q, 1, none⟩ u1) :=
  ⟨h.os, h.tape, h.output, by have := h.size; simpa using this, fun g hg a1 a2 a3 => (heap_set2 w' q g u0 u1 (by omega)).trans (h.block g hg a1 a2 a3)⟩
theorem but_undrew {b : Nat} {w w' : World} (h : But3 b b b w.drew w') : But3 b b b w w' := ⟨h.os, h.tape, h.output, h.size, h.block⟩
theorem Own.but {b lo hi c : Nat} {t : TypeId} {G : Option Addr} {vs : List Value} {w w' : World} (h : Own w lo hi t G c vs) (hb : But3 b b b w w') (hlo : b < lo) (hhi : hi ≤ w.heap.size) : Own w' lo hi t G c vs :=
  h.keep fun g h1 h2 => hb.block g (by omega) (by omega) (by omega) (by omega)
theorem flip_mod (a x n : Nat) (ha : a < n) (hx : x + 1 < n) : (a + 1 + x) % n < n ∧ (a + 1 + x) % n ≠ a := by
  refine ⟨Nat.mod_lt _ (by omega), ?_⟩
  rcases Nat.lt_or_ge (a + 1 + x) n with h | h
  · rw [Nat.mod_eq_of_lt h]; omega
  · rw [Nat.mod_eq_sub_mod h, Nat.mod_eq_of_lt (by omega)]; omega
theorem once_byt (b : Nat) (A : Option Addr) (c : Nat) (zs : List Int) (w : World) (h : Byt w b A c zs) (hz : ∀ z ∈ zs, 0 ≤ z ∧ z ≤ 255) (hl : zs.length ≤ 1048576) :
    Calls Try.prog 74 #[.pointer (some ⟨b, 0, none⟩), .int .i64 3] w fun e w' => ∃ v : Bool, e = .returned (.bool v) ∧ Byt w' b A c zs ∧ Only b (b + 1) w w' := by
  have HB := Lib.hid (below_byt b A c zs 3 w h hz hl (by omega) (by omega))
  clear h hz
  go_enter Try.func74, Try.ntmps74
  go_wp2_with fail
  refine HB.out.mono ?_
  rintro e w1 ⟨x, hx, rfl, hy, ho⟩
  go_wp2
  go_ret
  exact ⟨_, rfl, hy, ho⟩
set_option maxRecDepth 20000 in
set_option maxHeartbeats 4000000 in
theorem l05Draw_any (b : Nat) (A : Option Addr) (c : Nat) (zs : List Int) (most : Nat) (w : World) (h : Byt w b A c zs) (hz : ∀ z ∈ zs, 0 ≤ z ∧ z ≤ 255) (hl : zs.length ≤ 1048576) (h1 : 1 ≤ most) (h8 : most ≤ 8) :
    Calls Try.prog 48 #[.pointer (some ⟨b, 0, none⟩), .int .i64 (most : Int)] w (Drawn w b A c zs most) := by
  have HB := Lib.hid (fun k W (hy : Byt W b A c zs) (h0 : 0 < k) (h1 : k ≤ 256) => below_byt b A c zs k W hy hz hl h0 h1)
  have HB3 := Lib.hid (fun W (hy : Byt W b A c zs) => (HB.out 3 W hy (by omega) (by omega) : Calls Try.prog 77 #[.pointer (some ⟨b, 0, none⟩), .int .i64 3] W fun e w' => ∃ x : Nat, x < 3 ∧ e = .returned (.int .i64 (x : Int)) ∧ Byt w' b A c zs ∧ Only b (b + 1) W w'))
  have HON := Lib.hid (fun W (hy : Byt W b A c zs) => once_byt b A c zs W hy hz hl)
  have HOR := Lib.hid (fun n W (hy : Byt W b A c zs) (h8 : n ≤ 8) => l02Order_any b A c zs n W hy hz hl h8)
  have hbz := h.2.2
  obtain ⟨w1, hw1⟩ : ∃ w1, w1 = w.alloc (.cells #[.int .i64 0, .slice none 0 0] 26) := ⟨_, rfl⟩
  have hba : Below w.heap.size w w1 := by rw [hw1]; go_grown
  have hz1 : w1.heap.size = w.heap.size + 1 := by rw [hw1]; simp
  have HX1 : Hid (BoxAt w1 w.heap.size (.int .i64 0) (.slice none 0 0)) := Lib.hid (by rw [hw1]; exact BoxAt.made _ _ _ _)
  have HY1 := Lib.hid (h.below hba)
  have HT1 : Hid (But3 b b b w w1) := Lib.hid (But3.of_below hba)
  have HD1 := Lib.hid (l02Draw_any b A c zs most w1 HY1.out hz hl h1 h8)
  clear hz hl h hba
  go_enter Try.func48, Try.ntmps48
  go_wp2_with fail
  rw [← hw1]
  clear hw1
  refine HD1.out.mono ?_
  rintro e w2 ⟨V, G, d, hV, hVm, rfl, ho2, hy2, ht2⟩
  obtain ⟨n, hn⟩ : ∃ n, n = V.length := ⟨_, rfl⟩
  have hVn : V.length = n := hn.symm
  have hn1 := hV.h1
  have hn8 := hV.h8
  have hnm : n ≤ most := by omega
  rw [hVn] at hn1 hn8
  rw [← hn]
  clear hn hVm
  have hz2 := ht2.size
  obtain ⟨q, hq⟩ : ∃ q, q = w2.heap.size := ⟨_, rfl⟩
  obtain ⟨w3, hw3⟩ : ∃ w3, w3 = w2.alloc (.cells #[.int .i64 (n : Int), .slice G n d] 26) := ⟨_, rfl⟩
  have hb3 : Below w2.heap.size w2 w3 := by rw [hw3]; go_grown
  have hz3 : w3.heap.size = q + 1 := by rw [hw3, hq]; simp
  have HX5 : Hid (BoxAt w3 q (.int .i64 (n : Int)) (.slice G n d)) := Lib.hid (by rw [hw3, hq]; exact BoxAt.made _ _ _ _)
  have HX4 : Hid (BoxAt w3 w.heap.size (.int .i64 0) (.slice none 0 0)) := Lib.hid ((HX1.out.but ht2 (by omega)).below hb3)
  have HO3 : Hid (Own w3 w1.heap.size q 3 G d (ints (casts V))) := Lib.hid (by rw [hq]; exact ho2.below hb3 (Nat.le_refl _))
  have HY3 := Lib.hid (hy2.below hb3)
  have HT3 := Lib.hid ((HT1.out.trans ht2).trans (But3.of_below hb3))
  have HD3 := Lib.hid (HON.out w3 HY3.out)
  clear ho2 hy2 ht2 hb3 HX1 HT1 HY1 HD1
  have hqw : w.heap.size < q := by omega
  have hqb : q ≠ b := by omega
  go_wp2_with fail
  rw [← hq, ← hw3]
  clear hw3 hq
  refine HD3.out.mono ?_
  rintro e w4 ⟨v, rfl, hy4, ho4⟩
  have hz4 := ho4.size
  have HX54 := Lib.hid (HX5.out.but (But3.one ho4) hqb)
  have HX44 := Lib.hid (HX4.out.but (But3.one ho4) (by omega))
  have HO4 := Lib.hid (HO3.out.but (But3.one ho4) (by omega) (by omega))
  have HY4 := Lib.hid hy4
  have HT4 := Lib.hid (HT3.out.trans (But3.one ho4))
  clear hy4 ho4 HX5 HX4 HO3 HY3 HT3 HD3
  cases v with
  | false =>
    obtain ⟨p0, p1, _, _⟩ := HX54.out
    obtain ⟨r0, r1, f0, f1⟩ := HX44.out
    have f1' : (w4.setCell ⟨w.heap.size, 0, none⟩ (.int .i64 (n : Int))).frozen? ⟨w.heap.size, 1, none⟩ = false := by rw [World.frozen?_setCell]; exact f1
    have n0 := (HX44.out.set (.int .i64 (n : Int)) (.slice G n d)).1
    have n1 := (HX44.out.set (.int .i64 (n : Int)) (.slice G n d)).2.1
    have HKP := Lib.hid (fun g (hg : g ≠ w.heap.size) => heap_set2 w4 w.heap.size g (.int .i64 (n : Int)) (.slice G n d) hg)
    go_wp2
    refine bodyPost_ret (v := .agg #[.int .i64 (n : Int), .slice G n d]) (by simp [results, Try.results48, go_sem, n0, n1]) rfl ?_
    refine ⟨V, G, d, hV, by rw [hVn]; exact hnm, by rw [hVn], ?_, ?_, ?_⟩
    · exact Own.mono (HO4.out.keep fun g g1 g2 => HKP.out g (by omega)) (by omega) (by simp; omega)
    · exact HY4.out.belowAt (B := w.heap.size) (((Below.refl _ _).setCell (by show w.heap.size ≤ w.heap.size; omega) _).setCell (by show w.heap.size ≤ w.heap.size; omega) _) hbz
    · exact HT4.out.set2 (Nat.le_refl _) _ _
  | true =>
    have HOF := Lib.hid (fun W => (show Calls Try.prog 32 #[.int .i64 (n : Int), .int .i64 268435455] W (NewTour W (n : Int) (casts (gameV n fun k => (268435455 : Nat).testBit k))) from sOf_any n 268435455 W hn1 hn8 (by omega)))
    have hVT := gameV_ok n (fun k => (268435455 : Nat).testBit k) hn1 hn8
    have hVL := gameV_len n (fun k => (268435455 : Nat).testBit k)
    clear hV hVn HO4
    generalize gameV n (fun k => (268435455 : Nat).testBit k) = V5 at *
    have HVL := Lib.hid hVL
    have HRN := Lib.hid (fun (L : List Nat) (G5 : Option Addr) (d5 : Nat) (G6 : Option Addr) (d6 : Nat) W hr hr' (hp : L.Perm (List.range n)) => (by
      have := l02Rename_any G5 d5 V5 G6 d6 (casts L) W hVT hr hr' (by rw [casts_length, hp.length_eq, List.length_range, hVL]) (order_of hp)
      rwa [hVL] at this : Calls Try.prog 75 #[.agg #[.int .i64 (n : Int), .slice G5 n d5], .slice G6 n d6] W (NewTour W (n : Int) (casts (renW V5 (casts L))))))
    have HVT := Lib.hid hVT
    clear hVT hVL
    obtain ⟨p0, p1, pf0, pf1⟩ := HX54.out
    clear HX54
    go_wp2
    refine wp_region_held_drew (S := fun w' => w'.cell? ⟨q, 0, none⟩ = some (.int .i64 (n : Int))) (by kernel_rfl) ?_ (fun hHeld => ?_)
    · (try dsimp only); exact p0
    refine wpAnyH_take (i := 0) (v := ?_) rfl (by kernel_rfl) (by kernel_rfl) (by kernel_rfl) (fun _ _ _ h => h) (Or.inl ⟨by rfl, ?_⟩) (by assumption) ?_
    rotate_left
    · (intro wq hSw; (try dsimp only at hSw); (go_simp <;> with_reducible rfl))
    try simp only [Act.put, List.getElem_toArray, List.getElem_cons_zero, List.getElem_cons_succ, List.setIfInBounds_toArray, List.set_cons_zero, List.set_cons_succ]
    refine wpAnyH_take (i := 1) (v := ?_) rfl (by kernel_rfl) (by kernel_rfl) (by kernel_rfl) (fun _ _ _ h => h) (Or.inl ⟨by rfl, ?_⟩) (by assumption) ?_
    rotate_left
    · (intro wq hSw; (try dsimp only at hSw); (go_simp <;> with_reducible rfl))
    try simp only [Act.put, List.getElem_toArray, List.getElem_cons_zero, List.getElem_cons_succ, List.setIfInBounds_toArray, List.set_cons_zero, List.set_cons_succ]
    refine wpAnyH_take (i := 3) (v := ?_) rfl (by kernel_rfl) (by kernel_rfl) (by kernel_rfl) (fun _ _ _ h => h) (Or.inl ⟨by rfl, ?_⟩) (by assumption) ?_
    rotate_left
    · (intro wq hSw; (try dsimp only at hSw); (go_simp <;> with_reducible rfl))
    try simp only [Act.put, List.getElem_toArray, List.getElem_cons_zero, List.getElem_cons_succ, List.setIfInBounds_toArray, List.set_cons_zero, List.set_cons_succ]
    refine wpAnyH_take (i := 4) (v := ?_) rfl (by kernel_rfl) (by kernel_rfl) (by kernel_rfl) (fun _ _ _ h => h) (Or.inl ⟨by rfl, ?_⟩) (by assumption) ?_
    rotate_left
    · (intro wq hSw; (try dsimp only at hSw); (go_simp <;> with_reducible rfl))
    try simp only [Act.put, List.getElem_toArray, List.getElem_cons_zero, List.getElem_cons_succ, List.setIfInBounds_toArray, List.set_cons_zero, List.set_cons_succ]
    refine wpAnyH_take (i := 5) (v := ?_) rfl (by kernel_rfl) (by kernel_rfl) (by kernel_rfl) (fun _ _ _ h => h) (Or.inl ⟨by rfl, ?_⟩) (by assumption) ?_
    rotate_left
    · (intro wq hSw; (try dsimp only at hSw); (go_simp <;> with_reducible rfl))
    try simp only [Act.put, List.getElem_toArray, List.getElem_cons_zero, List.getElem_cons_succ, List.setIfInBounds_toArray, List.set_cons_zero, List.set_cons_succ]
    refine wpAnyH_ready (rs := [2]) (by kernel_rfl) (by simp) ?_
    refine AllReadyH.cons rfl (fun K hK => ?_) AllReadyH.nil
    go_simp
    (go_at_call 32; (with_reducible refine (HOF.out _).mono ?_); rintro e w5 ⟨G5, d5, rfl, ho5, hb5⟩; rw [casts_length, HVL.out]; have hb5 := below_undrew hb5; go_wp2_with fail)
    have hz5 := hb5.size
    have p0 := (hb5.cell (p := ⟨q, 0, none⟩) (by show q < _; omega)).trans p0
    have p1 := (hb5.cell (p := ⟨q, 1, none⟩) (by show q < _; omega)).trans p1
    have pf0 := (hb5.frozen (p := ⟨q, 0, none⟩) (by show q < _; omega)).trans pf0
    have pf1 := (hb5.frozen (p := ⟨q, 1, none⟩) (by show q < _; omega)).trans pf1
    have HX45 := Lib.hid (HX44.out.below hb5)
    have HY5 := Lib.hid (HY4.out.below hb5)
    have HT5 := Lib.hid (HT4.out.trans (But3.of_below hb5))
    have HO5 : Hid (Own w5 w4.heap.size w5.heap.size 3 G5 d5 (ints (casts V5))) := Lib.hid ho5
    have HD5 := Lib.hid (HOR.out n w5 HY5.out hn8)
    clear ho5 hb5 HX44 HY4 HT4
    refine hK.out _ _ ?_ (fun hHeld => ?_)
    · (try dsimp only); exact p0
    clear hK K
    try simp only [Act.put, List.getElem_toArray, List.getElem_cons_zero, List.getElem_cons_succ, List.setIfInBounds_toArray, List.set_cons_zero, List.set_cons_succ]
    refine wpAnyH_ready (rs := [6]) (by kernel_rfl) (by simp) ?_
    refine AllReadyH.cons rfl (fun K hK => ?_) AllReadyH.nil
    go_simp
    (go_at_call 76; (with_reducible refine HD5.out.mono ?_); rintro e w6 ⟨L, G6, d6, hp6, rfl, ho6, hy6, ht6⟩; go_wp2_with fail)
    have hz6 := ht6.size
    have p0 := (ht6.cell (p := ⟨q, 0, none⟩) (by show q < _; omega) hqb hqb hqb).trans p0
    have p1 := (ht6.cell (p := ⟨q, 1, none⟩) (by show q < _; omega) hqb hqb hqb).trans p1
    have pf0 := (ht6.frozen (p := ⟨q, 0, none⟩) (by show q < _; omega) hqb hqb hqb).trans pf0
    have pf1 := (ht6.frozen (p := ⟨q, 1, none⟩) (by show q < _; omega) hqb hqb hqb).trans pf1
    have HX46 := Lib.hid (HX45.out.but ht6 (by omega))
    have HY6 := Lib.hid hy6
    have HT6 := Lib.hid (HT5.out.trans ht6)
    have HO6 := Lib.hid (HO5.out.but ht6 (by omega) (Nat.le_refl _))
    have HRT := Lib.hid (renW_ok HVT.out (L := L) (by rw [HVL.out]; exact hp6))
    have HRL : Hid ((renW V5 (casts L)).length = n) := Lib.hid ((renW_length _ _).trans HVL.out)
    have HD6 := Lib.hid (HRN.out L G5 d5 G6 d6 w6 (HO6.out.row.mono (by omega)) (ho6.row.mono (Nat.le_refl _)) hp6)
    clear ho6 hy6 ht6 hp6 HX45 HY5 HT5 HO5 HD5 HRN
    generalize renW V5 (casts L) = V7 at *
    refine hK.out _ _ ?_ (fun hHeld => ?_)
    · (try dsimp only); exact p0
    clear hK K
    try simp only [Act.put, List.getElem_toArray, List.getElem_cons_zero, List.getElem_cons_succ, List.setIfInBounds_toArray, List.set_cons_zero, List.set_cons_succ]
    refine wpAnyH_ready (rs := [7]) (by kernel_rfl) (by simp) ?_
    refine AllReadyH.cons rfl (fun K hK => ?_) AllReadyH.nil
    go_simp
    (go_at_call 75; (with_reducible refine HD6.out.mono ?_); rintro e w7 ⟨G7, d7, rfl, ho7, hb7⟩; rw [casts_length, HRL.out]; go_wp2_with fail)
    have hz7 := hb7.size
    have p0 := (hb7.cell (p := ⟨q, 0, none⟩) (by show q < _; omega)).trans p0
    have p1 := (hb7.cell (p := ⟨q, 1, none⟩) (by show q < _; omega)).trans p1
    have pf0 := (hb7.frozen (p := ⟨q, 0, none⟩) (by show q < _; omega)).trans pf0
    have pf1 := (hb7.frozen (p := ⟨q, 1, none⟩) (by show q < _; omega)).trans pf1
    have HX47 := Lib.hid (HX46.out.below hb7)
    have HY7 := Lib.hid (HY6.out.below hb7)
    have HT7 := Lib.hid (HT6.out.trans (But3.of_below hb7))
    have HO7 := Lib.hid ho7
    have HX57 : Hid (BoxAt w7 q (.int .i64 (n : Int)) (.slice G n d)) := Lib.hid ⟨p0, p1, pf0, pf1⟩
    have pf1' : (w7.setCell ⟨q, 0, none⟩ (.int .i64 (n : Int))).frozen? ⟨q, 1, none⟩ = false := by rw [World.frozen?_setCell]; exact pf1
    clear ho7 hb7 HX46 HY6 HT6 HO6 HD6
    refine hK.out _ _ ?_ (fun hHeld => ?_)
    · (try dsimp only); exact p0
    clear hK K
    try simp only [Act.put, List.getElem_toArray, List.getElem_cons_zero, List.getElem_cons_succ, List.setIfInBounds_toArray, List.set_cons_zero, List.set_cons_succ]
    refine wpAnyH_ready (rs := [8]) (by kernel_rfl) (by simp) ?_
    refine AllReadyH.cons rfl (fun K hK => ?_) AllReadyH.nil
    go_simp
    refine hK.out _ _ ?_ (fun hHeld => ?_)
    · (try dsimp only); exact (HX57.out.set _ _).1
    clear hK K
    try simp only [Act.put, List.getElem_toArray, List.getElem_cons_zero, List.getElem_cons_succ, List.setIfInBounds_toArray, List.set_cons_zero, List.set_cons_succ]
    refine wpAnyH_done (by kernel_rfl) ?_ _
    have HX58 := Lib.hid (HX57.out.set (.int .i64 (n : Int)) (.slice G7 n d7))
    have HKP7 := Lib.hid (fun g (hg : g ≠ q) => heap_set2 w7 q g (.int .i64 (n : Int)) (.slice G7 n d7) hg)
    have HT8 := Lib.hid (HT7.out.set2 (q := q) (by omega) (.int .i64 (n : Int)) (.slice G7 n d7))
    have hz8 : ((w7.setCell ⟨q, 0, none⟩ (.int .i64 (n : Int))).setCell ⟨q, 1, none⟩ (.slice G7 n d7)).heap.size = w7.heap.size := by simp
    have HX48 := Lib.hid (HX47.out.keep (HKP7.out w.heap.size (by omega)))
    have HO8 := Lib.hid (HO7.out.keep fun g g1 g2 => HKP7.out g (by omega))
    have HY8 : Hid (Byt ((w7.setCell ⟨q, 0, none⟩ (.int .i64 (n : Int))).setCell ⟨q, 1, none⟩ (.slice G7 n d7)) b A c zs) := Lib.hid (HY7.out.belowAt (B := q) (((Below.refl _ _).setCell (by show q ≤ q; omega) _).setCell (by show q ≤ q; omega) _) (by omega))
    clear HX57 HX47 HY7 HT7 HO7 HKP7 p0 p1 pf0 pf1 pf1'
    generalize hw8 : (w7.setCell ⟨q, 0, none⟩ (.int .i64 (n : Int))).setCell ⟨q, 1, none⟩ (.slice G7 n d7) = w8 at *
    clear hw8
    have HD8 := Lib.hid (HB3.out w8 HY8.out)
    go_wp2_with fail
    refine HD8.out.mono ?_
    rintro e w9 ⟨j0, hj0, rfl, hy9, ho9⟩
    have hz9 := ho9.size
    have HX59 := Lib.hid (HX58.out.but (But3.one ho9) hqb)
    have HX49 := Lib.hid (HX48.out.but (But3.one ho9) (by omega))
    have HO9 := Lib.hid (HO8.out.but (But3.one ho9) (by omega) (by omega))
    have HY9 := Lib.hid hy9
    have HT9 := Lib.hid (HT8.out.trans (But3.one ho9))
    have hV7 := HRT.out
    have hV7n := HRL.out
    clear hy9 ho9 HX58 HX48 HO8 HY8 HT8 HD8 HRT HRL HON HOR HOF HB3
    go_wp2
    go_loopw [6] (fun v wr => ∃ (j : Nat) (V : List Nat) (G : Option Addr) (d lo hi : Nat), v = .int .i64 (j : Int) ∧ j < 3 ∧ IsT V ∧ V.length = n ∧ Hid (BoxAt wr q (.int .i64 (n : Int)) (.slice G n d)) ∧ Hid (BoxAt wr w.heap.size (.int .i64 0) (.slice none 0 0)) ∧ Hid (Own wr lo hi 3 G d (ints (casts V))) ∧ w.heap.size + 1 ≤ lo ∧ hi ≤ wr.heap.size ∧ (hi ≤ q ∨ q < lo) ∧ Hid (Byt wr b A c zs) ∧ Hid (But3 b b b w wr)) (fun v _ => (intOf v).toNat)
    case atStart => exact ⟨j0, V7, G7, d7, _, _, rfl, hj0, hV7, hV7n, HX59, HX49, HO9, by omega, by omega, by omega, HY9, HT9⟩
    case round =>
      clear HX59 HX49 HO9 HY9 HT9 hV7 hV7n
      obtain ⟨j, V, G, d, lo, hi, rfl, hj3, hV, hVn, HX5, HX4, HO, hlo, hhi, hlh, HY, HT⟩ := hrel
      have hTz := HT.out.size
      cases j with
      | zero =>
        obtain ⟨p0, p1, _, _⟩ := HX5.out
        obtain ⟨r0, r1, f0, f1⟩ := HX4.out
        have f1' : (wr.setCell ⟨w.heap.size, 0, none⟩ (.int .i64 (n : Int))).frozen? ⟨w.heap.size, 1, none⟩ = false := by rw [World.frozen?_setCell]; exact f1
        have n0 := (HX4.out.set (.int .i64 (n : Int)) (.slice G n d)).1
        have n1 := (HX4.out.set (.int .i64 (n : Int)) (.slice G n d)).2.1
        have HKP := Lib.hid (fun g (hg : g ≠ w.heap.size) => heap_set2 wr w.heap.size g (.int .i64 (n : Int)) (.slice G n d) hg)
        go_wp2
        refine bodyPost_ret (v := .agg #[.int .i64 (n : Int), .slice G n d]) (by simp [results, Try.results48, go_sem, n0, n1]) rfl ?_
        refine ⟨V, G, d, hV, by rw [hVn]; exact hnm, by rw [hVn], ?_, ?_, ?_⟩
        · exact Own.mono (HO.out.keep fun g g1 g2 => HKP.out g (by omega)) (by omega) (by simp; omega)
        · exact HY.out.belowAt (B := w.heap.size) (((Below.refl _ _).setCell (by show w.heap.size ≤ w.heap.size; omega) _).setCell (by show w.heap.size ≤ w.heap.size; omega) _) hbz
        · exact HT.out.set2 (Nat.le_refl _) _ _
      | succ j =>
        by_cases hn2 : 1 < n
        · obtain ⟨p0, p1, pf0, pf1⟩ := HX5.out
          have hqr := HX5.out.lt
          have HDn := Lib.hid (HB.out n wr HY.out (by omega) (by omega))
          have HBn := Lib.hid (fun W (hy : Byt W b A c zs) => (by
            have := HB.out (n - 1) W hy (by omega) (by omega)
            rwa [show ((n - 1 : Nat) : Int) = (n : Int) - 1 by omega] at this : Calls Try.prog 77 #[.pointer (some ⟨b, 0, none⟩), .int .i64 ((n : Int) - 1)] W fun e w' => ∃ x : Nat, x < n - 1 ∧ e = .returned (.int .i64 (x : Int)) ∧ Byt w' b A c zs ∧ Only b (b + 1) W w'))
          have HFL := Lib.hid (fun (a r : Nat) W hr (ha : a < n) (hr2 : r < n) => (by
            have := l02Flip_any G d V a r W hV hr (by omega) (by omega)
            rwa [hVn] at this : Calls Try.prog 78 #[.agg #[.int .i64 (n : Int), .slice G n d], .int .i64 (a : Int), .int .i64 (r : Int)] W (NewTour W (n : Int) (casts (flipW V a r)))))
          have hnI : (1 : Int) < (n : Int) := by omega
          have hn0 : ¬ n = 0 := by omega
          have hwn : IntKind.i64.wrap ((n : Int) - 1) = (n : Int) - 1 := by rw [IntKind.wrap_i64]; omega
          go_wp2_with fail
          refine HDn.out.mono ?_
          rintro e w9 ⟨a, ha, rfl, hy9, ho9⟩
          have hz9 := ho9.size
          have hwa : IntKind.i64.wrap ((a : Int) + 1) = (a : Int) + 1 := by rw [IntKind.wrap_i64]; omega
          have HX59 := Lib.hid (HX5.out.but (But3.one ho9) hqb)
          have HX49 := Lib.hid (HX4.out.but (But3.one ho9) (by omega))
          have HO9 := Lib.hid (HO.out.but (But3.one ho9) (by omega) hhi)
          have HY9 := Lib.hid hy9
          have HT9 := Lib.hid (HT.out.trans (But3.one ho9))
          clear hy9 ho9 HX5 HX4 HO HY HT HDn p0 p1 pf0 pf1
          obtain ⟨p0, p1, pf0, pf1⟩ := HX59.out
          have HVS := Lib.hid hV
          have HVN := Lib.hid hVn
          clear hV hVn
          go_wp2
          refine wp_region_held_drew (S := fun w' => w'.cell? ⟨q, 0, none⟩ = some (.int .i64 (n : Int))) (by kernel_rfl) ?_ (fun hHeld => ?_)
          · (try dsimp only); exact p0
          refine wpAnyH_take (i := 1) (v := ?_) rfl (by kernel_rfl) (by kernel_rfl) (by kernel_rfl) (fun _ _ _ h => h) (Or.inl ⟨by rfl, ?_⟩) (by assumption) ?_
          rotate_left
          · (intro wq hSw; (try dsimp only at hSw); (go_simp <;> with_reducible rfl))
          try simp only [Act.put, List.getElem_toArray, List.getElem_cons_zero, List.getElem_cons_succ, List.setIfInBounds_toArray, List.set_cons_zero, List.set_cons_succ]
          refine wpAnyH_take (i := 2) (v := ?_) rfl (by kernel_rfl) (by kernel_rfl) (by kernel_rfl) (fun _ _ _ h => h) (Or.inl ⟨by rfl, ?_⟩) (by assumption) ?_
          rotate_left
          · (intro wq hSw; (try dsimp only at hSw); (go_simp <;> with_reducible rfl))
          try simp only [Act.put, List.getElem_toArray, List.getElem_cons_zero, List.getElem_cons_succ, List.setIfInBounds_toArray, List.set_cons_zero, List.set_cons_succ]
          refine wpAnyH_take (i := 3) (v := ?_) rfl (by kernel_rfl) (by kernel_rfl) (by kernel_rfl) (fun _ _ _ h => h) (Or.inl ⟨by rfl, ?_⟩) (by assumption) ?_
          rotate_left
          · (intro wq hSw; (try dsimp only at hSw); (go_simp <;> with_reducible rfl))
          try simp only [Act.put, List.getElem_toArray, List.getElem_cons_zero, List.getElem_cons_succ, List.setIfInBounds_toArray, List.set_cons_zero, List.set_cons_succ]
          refine wpAnyH_take (i := 4) (v := ?_) rfl (by kernel_rfl) (by kernel_rfl) (by kernel_rfl) (fun _ _ _ h => h) (Or.inl ⟨by rfl, ?_⟩) (by assumption) ?_
          rotate_left
          · (intro wq hSw; (try dsimp only at hSw); (go_simp <;> with_reducible rfl))
          try simp only [Act.put, List.getElem_toArray, List.getElem_cons_zero, List.getElem_cons_succ, List.setIfInBounds_toArray, List.set_cons_zero, List.set_cons_succ]
          refine wpAnyH_take (i := 5) (v := ?_) rfl (by kernel_rfl) (by kernel_rfl) (by kernel_rfl) (fun _ _ _ h => h) (Or.inl ⟨by rfl, ?_⟩) (by assumption) ?_
          rotate_left
          · (intro wq hSw; (try dsimp only at hSw); (go_simp <;> with_reducible rfl))
          try simp only [Act.put, List.getElem_toArray, List.getElem_cons_zero, List.getElem_cons_succ, List.setIfInBounds_toArray, List.set_cons_zero, List.set_cons_succ]
          refine wpAnyH_take (i := 6) (v := ?_) rfl (by kernel_rfl) (by kernel_rfl) (by kernel_rfl) (fun _ _ _ h => h) (Or.inl ⟨by rfl, ?_⟩) (by assumption) ?_
          rotate_left
          · (intro wq hSw; (try dsimp only at hSw); (go_simp <;> with_reducible rfl))
          try simp only [Act.put, List.getElem_toArray, List.getElem_cons_zero, List.getElem_cons_succ, List.setIfInBounds_toArray, List.set_cons_zero, List.set_cons_succ]
          refine wpAnyH_take (i := 7) (v := ?_) rfl (by kernel_rfl) (by kernel_rfl) (by kernel_rfl) (fun _ _ _ h => h) (Or.inl ⟨by rfl, ?_⟩) (by assumption) ?_
          rotate_left
          · (intro wq hSw; (try dsimp only at hSw); (go_simp <;> with_reducible rfl))
          try simp only [Act.put, List.getElem_toArray, List.getElem_cons_zero, List.getElem_cons_succ, List.setIfInBounds_toArray, List.set_cons_zero, List.set_cons_succ]
          refine wpAnyH_take (i := 10) (v := ?_) rfl (by kernel_rfl) (by kernel_rfl) (by kernel_rfl) (fun _ _ _ h => h) (Or.inl ⟨by rfl, ?_⟩) (by assumption) ?_
          rotate_left
          · (intro wq hSw; (try dsimp only at hSw); (go_simp <;> with_reducible rfl))
          try simp only [Act.put, List.getElem_toArray, List.getElem_cons_zero, List.getElem_cons_succ, List.setIfInBounds_toArray, List.set_cons_zero, List.set_cons_succ]
          refine wpAnyH_take (i := 11) (v := ?_) rfl (by kernel_rfl) (by kernel_rfl) (by kernel_rfl) (fun _ _ _ h => h) (Or.inl ⟨by rfl, ?_⟩) (by assumption) ?_
          rotate_left
          · (intro wq hSw; (try dsimp only at hSw); (go_simp <;> with_reducible rfl))
          try simp only [Act.put, List.getElem_toArray, List.getElem_cons_zero, List.getElem_cons_succ, List.setIfInBounds_toArray, List.set_cons_zero, List.set_cons_succ]
          refine wpAnyH_ready (rs := [0, 8]) (by kernel_rfl) (by simp) ?_
          refine AllReadyH.cons rfl (fun K hK => ?_) (AllReadyH.cons rfl (fun K hK => ?_) AllReadyH.nil)
          · go_simp
            refine hK.out _ _ ?_ (fun hHeld => ?_)
            · (try dsimp only); exact p0
            clear hK K
            try simp only [Act.put, List.getElem_toArray, List.getElem_cons_zero, List.getElem_cons_succ, List.setIfInBounds_toArray, List.set_cons_zero, List.set_cons_succ]
            refine wpAnyH_ready (rs := [8]) (by kernel_rfl) (by simp) ?_
            refine AllReadyH.cons rfl (fun K hK => ?_) AllReadyH.nil
            go_simp
            (go_at_call 77; (with_reducible refine (HBn.out _ (HY9.out.below (Below.refl _ _).drew)).mono ?_); rintro e w10 ⟨x, hx, rfl, hy10, ho10⟩; go_wp2_with fail)
            have hb10 := but_undrew (But3.one ho10)
            have hz10 := hb10.size
            have p0 := (hb10.cell (p := ⟨q, 0, none⟩) (by show q < _; omega) hqb hqb hqb).trans p0
            have p1 := (hb10.cell (p := ⟨q, 1, none⟩) (by show q < _; omega) hqb hqb hqb).trans p1
            have pf0 := (hb10.frozen (p := ⟨q, 0, none⟩) (by show q < _; omega) hqb hqb hqb).trans pf0
            have pf1 := (hb10.frozen (p := ⟨q, 1, none⟩) (by show q < _; omega) hqb hqb hqb).trans pf1
            have HX410 := Lib.hid (HX49.out.but hb10 (by omega))
            have HY10 := Lib.hid hy10
            have HT10 := Lib.hid (HT9.out.trans hb10)
            have HO10 := Lib.hid (HO9.out.but hb10 (by omega) (by omega))
            obtain ⟨r, hr⟩ : ∃ r, r = (a + 1 + x) % n := ⟨_, rfl⟩
            obtain ⟨hrn, hra⟩ : r < n ∧ r ≠ a := by rw [hr]; exact flip_mod a x n ha (by omega)
            have hwx : IntKind.i64.wrap ((a : Int) + 1 + (x : Int)) = (a : Int) + 1 + (x : Int) := by rw [IntKind.wrap_i64]; omega
            have em : Int.tmod ((a : Int) + 1 + (x : Int)) (n : Int) = (r : Int) := by rw [hr, show (a : Int) + 1 + (x : Int) = ((a + 1 + x : Nat) : Int) by omega]; rfl
            have em2 : ((a : Int) + 1 + (x : Int)) % (n : Int) = (r : Int) := by rw [hr, show (a : Int) + 1 + (x : Int) = ((a + 1 + x : Nat) : Int) by omega]; rfl
            have HFT := Lib.hid (flipW_ok V HVS.out a r (by rw [HVN.out]; exact ha) (by rw [HVN.out]; exact hrn) (fun e => hra e.symm))
            have HFN : Hid ((flipW V a r).length = n) := Lib.hid ((flipW_length _ _ _).trans HVN.out)
            have HD10 := Lib.hid (HFL.out a r w10 (HO10.out.row.mono (by omega)) ha hrn)
            clear hr hra hy10 ho10 hb10 HX49 HY9 HT9 HO9 HFL HBn
            generalize flipW V a r = V2 at *
            refine hK.out _ _ ?_ (fun hHeld => ?_)
            · (try dsimp only); exact p0
            clear hK K
            try simp only [Act.put, List.getElem_toArray, List.getElem_cons_zero, List.getElem_cons_succ, List.setIfInBounds_toArray, List.set_cons_zero, List.set_cons_succ]
            refine wpAnyH_take (i := 9) (v := ?_) rfl (by kernel_rfl) (by kernel_rfl) (by kernel_rfl) (fun _ _ _ h => h) (Or.inl ⟨by rfl, ?_⟩) (by assumption) ?_
            rotate_left
            · (intro wq hSw; (try dsimp only at hSw); (go_simp <;> with_reducible rfl))
            try simp only [Act.put, List.getElem_toArray, List.getElem_cons_zero, List.getElem_cons_succ, List.setIfInBounds_toArray, List.set_cons_zero, List.set_cons_succ]
            refine wpAnyH_take (i := 12) (v := ?_) rfl (by kernel_rfl) (by kernel_rfl) (by kernel_rfl) (fun _ _ _ h => h) (Or.inl ⟨by rfl, ?_⟩) (by assumption) ?_
            rotate_left
            · (intro wq hSw; (try dsimp only at hSw); (go_simp <;> with_reducible rfl))
            try simp only [Act.put, List.getElem_toArray, List.getElem_cons_zero, List.getElem_cons_succ, List.setIfInBounds_toArray, List.set_cons_zero, List.set_cons_succ]
            refine wpAnyH_ready (rs := [13]) (by kernel_rfl) (by simp) ?_
            refine AllReadyH.cons rfl (fun K hK => ?_) AllReadyH.nil
            go_simp
            (go_at_call 78; (with_reducible refine HD10.out.mono ?_); rintro e w11 ⟨G2, d2, rfl, ho11, hb11⟩; rw [casts_length, HFN.out]; go_wp2_with fail)
            have hz11 := hb11.size
            have p0 := (hb11.cell (p := ⟨q, 0, none⟩) (by show q < _; omega)).trans p0
            have p1 := (hb11.cell (p := ⟨q, 1, none⟩) (by show q < _; omega)).trans p1
            have pf0 := (hb11.frozen (p := ⟨q, 0, none⟩) (by show q < _; omega)).trans pf0
            have pf1 := (hb11.frozen (p := ⟨q, 1, none⟩) (by show q < _; omega)).trans pf1
            have HX411 := Lib.hid (HX410.out.below hb11)
            have HY11 := Lib.hid (HY10.out.below hb11)
            have HT11 := Lib.hid (HT10.out.trans (But3.of_below hb11))
            have HO11 := Lib.hid ho11
            have HX511 : Hid (BoxAt w11 q (.int .i64 (n : Int)) (.slice G n d)) := Lib.hid ⟨p0, p1, pf0, pf1⟩
            have pf1' : (w11.setCell ⟨q, 0, none⟩ (.int .i64 (n : Int))).frozen? ⟨q, 1, none⟩ = false := by rw [World.frozen?_setCell]; exact pf1
            clear ho11 hb11 HX410 HY10 HT10 HO10 HD10
            refine hK.out _ _ ?_ (fun hHeld => ?_)
            · (try dsimp only); exact p0
            clear hK K
            try simp only [Act.put, List.getElem_toArray, List.getElem_cons_zero, List.getElem_cons_succ, List.setIfInBounds_toArray, List.set_cons_zero, List.set_cons_succ]
            refine wpAnyH_ready (rs := [14]) (by kernel_rfl) (by simp) ?_
            refine AllReadyH.cons rfl (fun K hK => ?_) AllReadyH.nil
            go_simp
            refine hK.out _ _ ?_ (fun hHeld => ?_)
            · (try dsimp only); exact (HX511.out.set _ _).1
            clear hK K
            try simp only [Act.put, List.getElem_toArray, List.getElem_cons_zero, List.getElem_cons_succ, List.setIfInBounds_toArray, List.set_cons_zero, List.set_cons_succ]
            refine wpAnyH_done (by kernel_rfl) ?_ _
            have HX512 := Lib.hid (HX511.out.set (.int .i64 (n : Int)) (.slice G2 n d2))
            have HKP := Lib.hid (fun g (hg : g ≠ q) => heap_set2 w11 q g (.int .i64 (n : Int)) (.slice G2 n d2) hg)
            have HT12 := Lib.hid (HT11.out.set2 (q := q) (by omega) (.int .i64 (n : Int)) (.slice G2 n d2))
            have HX412 := Lib.hid (HX411.out.keep (HKP.out w.heap.size (by omega)))
            have HO12 := Lib.hid (HO11.out.keep fun g g1 g2 => HKP.out g (by omega))
            have HY12 : Hid (Byt ((w11.setCell ⟨q, 0, none⟩ (.int .i64 (n : Int))).setCell ⟨q, 1, none⟩ (.slice G2 n d2)) b A c zs) := Lib.hid (HY11.out.belowAt (B := q) (((Below.refl _ _).setCell (by show q ≤ q; omega) _).setCell (by show q ≤ q; omega) _) (by omega))
            clear HX511 HX411 HY11 HT11 HO11 HKP p0 p1 pf0 pf1 pf1' em em2
            go_wp2
            go_roundw
            case rel => exact ⟨j, V2, G2, d2, _, _, by first | go_num | (congr 1; omega) | (simp; omega), by omega, HFT.out, HFN.out, HX512, HX412, HO12, by omega, by simp, by omega, HY12, HT12⟩
            case measure => (simp [intOf] <;> omega)
          · go_simp
            (go_at_call 77; (with_reducible refine (HBn.out _ (HY9.out.below (Below.refl _ _).drew)).mono ?_); rintro e w10 ⟨x, hx, rfl, hy10, ho10⟩; go_wp2_with fail)
            have hb10 := but_undrew (But3.one ho10)
            have hz10 := hb10.size
            have p0 := (hb10.cell (p := ⟨q, 0, none⟩) (by show q < _; omega) hqb hqb hqb).trans p0
            have p1 := (hb10.cell (p := ⟨q, 1, none⟩) (by show q < _; omega) hqb hqb hqb).trans p1
            have pf0 := (hb10.frozen (p := ⟨q, 0, none⟩) (by show q < _; omega) hqb hqb hqb).trans pf0
            have pf1 := (hb10.frozen (p := ⟨q, 1, none⟩) (by show q < _; omega) hqb hqb hqb).trans pf1
            have HX410 := Lib.hid (HX49.out.but hb10 (by omega))
            have HY10 := Lib.hid hy10
            have HT10 := Lib.hid (HT9.out.trans hb10)
            have HO10 := Lib.hid (HO9.out.but hb10 (by omega) (by omega))
            obtain ⟨r, hr⟩ : ∃ r, r = (a + 1 + x) % n := ⟨_, rfl⟩
            obtain ⟨hrn, hra⟩ : r < n ∧ r ≠ a := by rw [hr]; exact flip_mod a x n ha (by omega)
            have hwx : IntKind.i64.wrap ((a : Int) + 1 + (x : Int)) = (a : Int) + 1 + (x : Int) := by rw [IntKind.wrap_i64]; omega
            have em : Int.tmod ((a : Int) + 1 + (x : Int)) (n : Int) = (r : Int) := by rw [hr, show (a : Int) + 1 + (x : Int) = ((a + 1 + x : Nat) : Int) by omega]; rfl
            have em2 : ((a : Int) + 1 + (x : Int)) % (n : Int) = (r : Int) := by rw [hr, show (a : Int) + 1 + (x : Int) = ((a + 1 + x : Nat) : Int) by omega]; rfl
            have HFT := Lib.hid (flipW_ok V HVS.out a r (by rw [HVN.out]; exact ha) (by rw [HVN.out]; exact hrn) (fun e => hra e.symm))
            have HFN : Hid ((flipW V a r).length = n) := Lib.hid ((flipW_length _ _ _).trans HVN.out)
            have HD10 := Lib.hid (HFL.out a r w10 (HO10.out.row.mono (by omega)) ha hrn)
            clear hr hra hy10 ho10 hb10 HX49 HY9 HT9 HO9 HFL HBn
            generalize flipW V a r = V2 at *
            refine hK.out _ _ ?_ (fun hHeld => ?_)
            · (try dsimp only); exact p0
            clear hK K
            try simp only [Act.put, List.getElem_toArray, List.getElem_cons_zero, List.getElem_cons_succ, List.setIfInBounds_toArray, List.set_cons_zero, List.set_cons_succ]
            refine wpAnyH_take (i := 9) (v := ?_) rfl (by kernel_rfl) (by kernel_rfl) (by kernel_rfl) (fun _ _ _ h => h) (Or.inl ⟨by rfl, ?_⟩) (by assumption) ?_
            rotate_left
            · (intro wq hSw; (try dsimp only at hSw); (go_simp <;> with_reducible rfl))
            try simp only [Act.put, List.getElem_toArray, List.getElem_cons_zero, List.getElem_cons_succ, List.setIfInBounds_toArray, List.set_cons_zero, List.set_cons_succ]
            refine wpAnyH_take (i := 12) (v := ?_) rfl (by kernel_rfl) (by kernel_rfl) (by kernel_rfl) (fun _ _ _ h => h) (Or.inl ⟨by rfl, ?_⟩) (by assumption) ?_
            rotate_left
            · (intro wq hSw; (try dsimp only at hSw); (go_simp <;> with_reducible rfl))
            try simp only [Act.put, List.getElem_toArray, List.getElem_cons_zero, List.getElem_cons_succ, List.setIfInBounds_toArray, List.set_cons_zero, List.set_cons_succ]
            refine wpAnyH_ready (rs := [0]) (by kernel_rfl) (by simp) ?_
            refine AllReadyH.cons rfl (fun K hK => ?_) AllReadyH.nil
            go_simp
            refine hK.out _ _ ?_ (fun hHeld => ?_)
            · (try dsimp only); exact p0
            clear hK K
            try simp only [Act.put, List.getElem_toArray, List.getElem_cons_zero, List.getElem_cons_succ, List.setIfInBounds_toArray, List.set_cons_zero, List.set_cons_succ]
            refine wpAnyH_ready (rs := [13]) (by kernel_rfl) (by simp) ?_
            refine AllReadyH.cons rfl (fun K hK => ?_) AllReadyH.nil
            go_simp
            (go_at_call 78; (with_reducible refine HD10.out.mono ?_); rintro e w11 ⟨G2, d2, rfl, ho11, hb11⟩; rw [casts_length, HFN.out]; go_wp2_with fail)
            have hz11 := hb11.size
            have p0 := (hb11.cell (p := ⟨q, 0, none⟩) (by show q < _; omega)).trans p0
            have p1 := (hb11.cell (p := ⟨q, 1, none⟩) (by show q < _; omega)).trans p1
            have pf0 := (hb11.frozen (p := ⟨q, 0, none⟩) (by show q < _; omega)).trans pf0
            have pf1 := (hb11.frozen (p := ⟨q, 1, none⟩) (by show q < _; omega)).trans pf1
            have HX411 := Lib.hid (HX410.out.below hb11)
            have HY11 := Lib.hid (HY10.out.below hb11)
            have HT11 := Lib.hid (HT10.out.trans (But3.of_below hb11))
            have HO11 := Lib.hid ho11
            have HX511 : Hid (BoxAt w11 q (.int .i64 (n : Int)) (.slice G n d)) := Lib.hid ⟨p0, p1, pf0, pf1⟩
            have pf1' : (w11.setCell ⟨q, 0, none⟩ (.int .i64 (n : Int))).frozen? ⟨q, 1, none⟩ = false := by rw [World.frozen?_setCell]; exact pf1
            clear ho11 hb11 HX410 HY10 HT10 HO10 HD10
            refine hK.out _ _ ?_ (fun hHeld => ?_)
            · (try dsimp only); exact p0
            clear hK K
            try simp only [Act.put, List.getElem_toArray, List.getElem_cons_zero, List.getElem_cons_succ, List.setIfInBounds_toArray, List.set_cons_zero, List.set_cons_succ]
            refine wpAnyH_ready (rs := [14]) (by kernel_rfl) (by simp) ?_
            refine AllReadyH.cons rfl (fun K hK => ?_) AllReadyH.nil
            go_simp
            refine hK.out _ _ ?_ (fun hHeld => ?_)
            · (try dsimp only); exact (HX511.out.set _ _).1
            clear hK K
            try simp only [Act.put, List.getElem_toArray, List.getElem_cons_zero, List.getElem_cons_succ, List.setIfInBounds_toArray, List.set_cons_zero, List.set_cons_succ]
            refine wpAnyH_done (by kernel_rfl) ?_ _
            have HX512 := Lib.hid (HX511.out.set (.int .i64 (n : Int)) (.slice G2 n d2))
            have HKP := Lib.hid (fun g (hg : g ≠ q) => heap_set2 w11 q g (.int .i64 (n : Int)) (.slice G2 n d2) hg)
            have HT12 := Lib.hid (HT11.out.set2 (q := q) (by omega) (.int .i64 (n : Int)) (.slice G2 n d2))
            have HX412 := Lib.hid (HX411.out.keep (HKP.out w.heap.size (by omega)))
            have HO12 := Lib.hid (HO11.out.keep fun g g1 g2 => HKP.out g (by omega))
            have HY12 : Hid (Byt ((w11.setCell ⟨q, 0, none⟩ (.int .i64 (n : Int))).setCell ⟨q, 1, none⟩ (.slice G2 n d2)) b A c zs) := Lib.hid (HY11.out.belowAt (B := q) (((Below.refl _ _).setCell (by show q ≤ q; omega) _).setCell (by show q ≤ q; omega) _) (by omega))
            clear HX511 HX411 HY11 HT11 HO11 HKP p0 p1 pf0 pf1 pf1' em em2
            go_wp2
            go_roundw
            case rel => exact ⟨j, V2, G2, d2, _, _, by first | go_num | (congr 1; omega) | (simp; omega), by omega, HFT.out, HFN.out, HX512, HX412, HO12, by omega, by simp, by omega, HY12, HT12⟩
            case measure => (simp [intOf] <;> omega)
        · have hnI : ¬ (1 : Int) < (n : Int) := by omega
          obtain ⟨p0, p1, _, _⟩ := HX5.out
          obtain ⟨r0, r1, f0, f1⟩ := HX4.out
          have f1' : (wr.setCell ⟨w.heap.size, 0, none⟩ (.int .i64 (n : Int))).frozen? ⟨w.heap.size, 1, none⟩ = false := by rw [World.frozen?_setCell]; exact f1
          have n0 := (HX4.out.set (.int .i64 (n : Int)) (.slice G n d)).1
          have n1 := (HX4.out.set (.int .i64 (n : Int)) (.slice G n d)).2.1
          have HKP := Lib.hid (fun g (hg : g ≠ w.heap.size) => heap_set2 wr w.heap.size g (.int .i64 (n : Int)) (.slice G n d) hg)
          go_wp2
          refine bodyPost_ret (v := .agg #[.int .i64 (n : Int), .slice G n d]) (by simp [results, Try.results48, go_sem, n0, n1]) rfl ?_
          refine ⟨V, G, d, hV, by rw [hVn]; exact hnm, by rw [hVn], ?_, ?_, ?_⟩
          · exact Own.mono (HO.out.keep fun g g1 g2 => HKP.out g (by omega)) (by omega) (by simp; omega)
          · exact HY.out.belowAt (B := w.heap.size) (((Below.refl _ _).setCell (by show w.heap.size ≤ w.heap.size; omega) _).setCell (by show w.heap.size ≤ w.heap.size; omega) _) hbz
          · exact HT.out.set2 (Nat.le_refl _) _ _
end Go.Proofs.Ytaocjjocncoahaa

namespace Go.Proofs.Ytaocjjocncoahaa
open Go.RowKit

set_option maxRecDepth 20000 in
set_option maxHeartbeats 4000000 in
theorem makeTour_seven (A : Option Addr) (c : Nat) (zs : List Int) (w : World) (h : Row w w.heap.size A (u8s zs)) (hz : ∀ z ∈ zs, 0 ≤ z ∧ z ≤ 255) (hl : zs.length ≤ 1048576) :
    Calls Try.prog 16 #[.slice A zs.length c, .int .i64 0, .int .i64 7] w fun e w' => ∃ (V : List Nat) (G : Option Addr) (d : Nat), IsT V ∧ V.length ≤ 7 ∧ e = .returned (.agg #[.int .i64 (V.length : Int), .slice G V.length d]) ∧ Own w' w.heap.size w'.heap.size 3 G d (ints (casts V)) ∧ Below w.heap.size w w' := by
  obtain ⟨w1, hw1⟩ : ∃ w1, w1 = w.alloc (.cells #[.int .i64 0, .slice none 0 0] 26) := ⟨_, rfl⟩
  have hba : Below w.heap.size w w1 := by rw [hw1]; go_grown
  have hz1 : w1.heap.size = w.heap.size + 1 := by rw [hw1]; simp
  have HX1 : Hid (BoxAt w1 w.heap.size (.int .i64 0) (.slice none 0 0)) := Lib.hid (by rw [hw1]; exact BoxAt.made _ _ _ _)
  have HC := Lib.hid (show Calls Try.prog 49 #[.slice A zs.length c, .int .i64 0] w1 fun e w' => e = .returned (.pointer (some ⟨w1.heap.size, 0, none⟩)) ∧ Byt w' w1.heap.size A c zs ∧ Below w1.heap.size w1 w' from l32New_any A c zs 0 w1 (h.rowAt hba (Nat.le_refl _)) hz hl (by omega))
  have HD := Lib.hid (fun b W (hy : Byt W b A c zs) => show Calls Try.prog 48 #[.pointer (some ⟨b, 0, none⟩), .int .i64 7] W (Drawn W b A c zs 7) from l05Draw_any b A c zs 7 W hy hz hl (by omega) (by omega))
  rw [hz1] at HC
  clear h hz
  go_enter Try.func16, Try.ntmps16
  go_wp2_with fail
  rw [← hw1]
  refine HC.out.mono ?_
  rintro e w2 ⟨rfl, hy2, hb2⟩
  have hb2 : Below w1.heap.size w1 w2 := by rw [hz1]; exact hb2
  have hz2 := hb2.size
  have HX2 := Lib.hid (HX1.out.below hb2)
  have HD2 := Lib.hid (HD.out _ w2 hy2)
  clear hw1
  go_wp2_with fail
  refine HD2.out.mono ?_
  rintro e w3 ⟨V, G, d, hV, hVm, rfl, ho3, hy3, ht3⟩
  have hz3 := ht3.size
  have HX3 := Lib.hid (HX2.out.but ht3 (by omega))
  have hbw3 : Below w.heap.size w w3 := (hba.trans (hb2.mono (by omega))).trans (ht3.below (by omega) (by omega) (by omega) (by omega))
  have HO3 := Lib.hid ho3
  obtain ⟨n, hn⟩ : ∃ n, n = V.length := ⟨_, rfl⟩
  rw [← hn]
  have hVn := Lib.hid hn.symm
  rw [← hn] at hVm
  clear hn ho3 hy3 ht3
  obtain ⟨r0, r1, f0, f1⟩ := HX3.out
  have f1' : (w3.setCell ⟨w.heap.size, 0, none⟩ (.int .i64 (n : Int))).frozen? ⟨w.heap.size, 1, none⟩ = false := by rw [World.frozen?_setCell]; exact f1
  have n0 := (HX3.out.set (.int .i64 (n : Int)) (.slice G n d)).1
  have n1 := (HX3.out.set (.int .i64 (n : Int)) (.slice G n d)).2.1
  have HKP := Lib.hid (fun g (hg : g ≠ w.heap.size) => heap_set2 w3 w.heap.size g (.int .i64 (n : Int)) (.slice G n d) hg)
  go_wp2
  refine bodyPost_ret (v := .agg #[.int .i64 (n : Int), .slice G n d]) (by simp [results, Try.results16, go_sem, n0, n1]) rfl ?_
  refine ⟨V, G, d, hV, by rw [hVn.out]; exact hVm, by rw [hVn.out], ?_, ?_⟩
  · exact Own.mono (HO3.out.keep fun g g1 g2 => HKP.out g (by omega)) (by omega) (by simp)
  · exact (hbw3.setCell (by show w.heap.size ≤ w.heap.size; omega) _).setCell (by show w.heap.size ≤ w.heap.size; omega) _
end Go.Proofs.Ytaocjjocncoahaa
