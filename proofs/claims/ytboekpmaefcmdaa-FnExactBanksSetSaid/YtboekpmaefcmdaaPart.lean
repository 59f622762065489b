/- The tour of some players: PartTour, walked. -/
import Derived.Test.YtboekpmaefcmdaaTRes
import Derived.Test.YtboekpmaefcmdaaTourOf
import Derived.Test.YtboekpmaefcmdaaBits2
import Derived.Test.YtboekpmaefcmdaaScore
import Derived.Deep.RegionLaw
namespace Go.Proofs.Ytboekpmaefcmdaa
open Go.RowKit

/-- The rows of wins among the members of a set. -/
def partW (W : List Nat) (x : Nat) : List Nat := rowsOf (mem 8 x).length fun a b => bt W ((mem 8 x).getD a 0) ((mem 8 x).getD b 0)
theorem partW_length (W : List Nat) (x : Nat) : (partW W x).length = (mem 8 x).length := rowsOf_length _ _
def pOk (s : Int) (zs : List Int) (x : Int) : Bool := okB s zs && (decide (1 ≤ x) && decide (x ≤ 2 ^ zs.length - 1))
def tPartTour (s : Int) (zs : List Int) (x : Int) : Int := if pOk s zs x then ((mem 8 x.toNat).length : Int) else 0
def rPartTour (s : Int) (zs : List Int) (x : Int) : List Int := if pOk s zs x then casts (partW (toW zs) x.toNat) else []
def bPartTour (s : Int) (zs : List Int) (x : Int) : Bool := pOk s zs x
theorem mem_le8 (x : Nat) : (mem 8 x).length ≤ 8 := by rw [mem_length]; exact pc_le 8 x
theorem rPartTour_len (s : Int) (zs : List Int) (x : Int) : (rPartTour s zs x).length ≤ 1048576 := by
  unfold rPartTour
  split
  · rw [casts_length, partW_length]
    have := mem_le8 x.toNat
    omega
  · simp
theorem pOk_bad (s : Int) (zs : List Int) (x : Int) (h : okB s zs = false) : pOk s zs x = false := by unfold pOk; rw [h]; rfl
theorem pOk_out (s : Int) (zs : List Int) (x : Int) (h : x < 1 ∨ 2 ^ zs.length - 1 < x) : pOk s zs x = false := by
  unfold pOk
  have : (decide (1 ≤ x) && decide (x ≤ 2 ^ zs.length - 1)) = false := by
    rcases h with e | e
    · rw [decide_eq_false (by omega)]; rfl
    · rw [decide_eq_false (show ¬ x ≤ 2 ^ zs.length - 1 by omega), Bool.and_false]
  rw [this, Bool.and_false]
theorem part_none {s : Int} {zs : List Int} {x : Int} (h : pOk s zs x = false) {w w' : World} (hb : Below w.heap.size w w') : NewTourOk w (tPartTour s zs x) (rPartTour s zs x) (bPartTour s zs x) (.returned (.tuple #[.agg #[.int .i64 0, .slice none 0 0], .bool false])) w' :=
  newTourOk_none (by unfold tPartTour; rw [h]; rfl) (by unfold rPartTour; rw [h]; rfl) (by unfold bPartTour; rw [h]) hb
theorem mem_pos (n x : Nat) (h0 : 0 < x) (hx : x < 2 ^ n) (hn : n ≤ 8) : 1 ≤ (mem 8 x).length := by
  rw [mem_length]
  have h256 : x < 256 := Nat.lt_of_lt_of_le hx (pow_le8 n hn)
  have := pc_zero x h256
  omega
theorem mem_bt (n x : Nat) (hx : x < 2 ^ n) (k : Nat) (hk : k < (mem 8 x).length) : (mem 8 x).getD k 0 < n := by
  rw [getD_lt _ _ _ hk]
  exact mem_lt n x hx k hk
/-- The rows as the reference makes them. -/
theorem partW_row (W : List Nat) (hT : IsT W) (x k : Nat) (hk : k < (mem 8 x).length) : (partW W x).getD k 0 = ofB (mem 8 x).length fun j => bt W ((mem 8 x).getD k 0) ((mem 8 x).getD j 0) := by
  rw [getD_lt _ _ _ (by rw [partW_length]; exact hk)]
  simp only [partW, rowsOf, List.getElem_map, List.getElem_range]
  refine ofB_congr _ _ _ fun i hi => ?_
  unfold Go.Proofs.Ytboekpmaefcmdaa.hb
  by_cases e : k = i
  · subst e; simp [hT.self]
  · simp [e]
theorem partW_take (W : List Nat) (x k : Nat) (hk : k < (mem 8 x).length) : (partW W x).take (k + 1) = (partW W x).take k ++ [(partW W x).getD k 0] := by
  rw [List.take_succ_eq_append_getElem (by rwa [partW_length]), getD_lt _ _ _ (by rwa [partW_length])]

theorem part_pred (A : Option Addr) (c : Nat) (W : List Nat) (x : Nat) (w : World) (hT : IsT W) (h : Row w w.heap.size A (ints (casts W))) (hx : x < 2 ^ W.length) (b q : Nat) (k0 : w.cell? ⟨b, 0, none⟩ = some (.int .i64 (W.length : Int))) (k1 : w.cell? ⟨b, 1, none⟩ = some (.slice A W.length c))
    (B : Option Addr) (n d : Nat) (kq : w.cell? ⟨q, 0, none⟩ = some (.slice B n d)) (hn : n = (mem 8 x).length) (hr : Row w w.heap.size B (ints (casts (mem 8 x)))) :
    PredTwo 141 #[.pointer (some ⟨b, 0, none⟩), .pointer (some ⟨q, 0, none⟩)] (fun i j => bt W ((mem 8 x).getD i 0) ((mem 8 x).getD j 0)) n w := by
  intro V i j hb hi hj _
  subst hn
  have g1 := hT.h1
  have g8 := hT.h8
  obtain ⟨c0, c1⟩ := held_at k0 k1 hb
  have cq := (hb.cell (p := ⟨q, 0, none⟩) (World.block_lt_of_cell? w _ kq)).trans kq
  have hr := hr.rowAt hb (Nat.le_refl _)
  have h := h.rowAt hb (Nat.le_refl _)
  obtain ⟨b1, o1, rfl, hl1, hci⟩ := hr.nat hi
  obtain ⟨b2, o2, e2, _, hcj⟩ := hr.nat hj
  simp only [Option.some.injEq, Addr.mk.injEq, and_true] at e2
  obtain ⟨rfl, rfl⟩ := e2
  have hmi := mem_bt W.length x hx i hi
  have hmj := mem_bt W.length x hx j hj
  show Calls Try.prog 141 _ V (fun e W' => e = .returned (.bool (bt W ((mem 8 x).getD i 0) ((mem 8 x).getD j 0))) ∧ Below V.heap.size V W')
  rw [getD_lt _ _ _ hi] at hmi ⊢
  rw [getD_lt _ _ _ hj] at hmj ⊢
  have HC := Lib.hid (fun V' hr' => beatsW_any A c W (mem 8 x)[i] (mem 8 x)[j] _ rfl V' hT hr' hmi hmj)
  generalize (mem 8 x)[i] = mi at *
  generalize (mem 8 x)[j] = mj at *
  have t0 : (0 : Int) ≤ (i : Int) := by omega
  have t1 : (i : Int) < ((mem 8 x).length : Int) := by omega
  have t2 : (0 : Int) ≤ (j : Int) := by omega
  have t3 : (j : Int) < ((mem 8 x).length : Int) := by omega
  have hbb : Below V.heap.size V V := Below.refl _ _
  clear k0 k1 kq hr
  go_enter Try.func141, Try.ntmps141
  go_wp2
  go_region_held3 (fun w' => Below V.heap.size V w' ∧ w'.cell? ⟨b, 0, none⟩ = some (.int .i64 (W.length : Int)) ∧ w'.cell? ⟨b, 1, none⟩ = some (.slice A W.length c) ∧ w'.cell? ⟨q, 0, none⟩ = some (.slice (some ⟨b1, o1, none⟩) (mem 8 x).length d) ∧ w'.cell? ⟨b1, o1 + i, none⟩ = some (.int .i64 (mi : Nat)) ∧ w'.cell? ⟨b1, o1 + j, none⟩ = some (.int .i64 (mj : Nat)))
    (first | exact ⟨hbb, c0, c1, cq, hci, hcj⟩ | exact ⟨hbb.drew, c0, c1, cq, hci, hcj⟩)
    ((go_at_call 82; refine (HC.out _ (h.rowAt (by first | exact hbb | exact hbb.drew) (Nat.le_refl _))).mono ?_; rintro e wq ⟨rfl, hq0⟩; have hbb : Below V.heap.size V wq := (by first | exact below_trans hbb hq0 | exact below_undrew hq0); have hci := (hbb.cell (p := ⟨b1, o1 + i, none⟩) hl1).trans hci; have hcj := (hbb.cell (p := ⟨b1, o1 + j, none⟩) hl1).trans hcj; have cq := (hbb.cell (p := ⟨q, 0, none⟩) (World.block_lt_of_cell? V _ cq)).trans cq; obtain ⟨c0, c1⟩ := held_at c0 c1 hbb))
  go_wp2
  go_ret
  exact ⟨rfl, hbb⟩
theorem iPartTour_any (A : Option Addr) (c : Nat) (s : Int) (zs : List Int) (x : Int) (w : World) (h : Row w w.heap.size A (ints zs)) (hl : zs.length ≤ 1099511627776) (_ : (Lit.int .i64 x).wf = true) :
    Calls Try.prog 120 #[.agg #[.int .i64 s, .slice A zs.length c], .int .i64 x] w (NewTourOk w (tPartTour s zs x) (rPartTour s zs x) (bPartTour s zs x)) := by
  cases ho : okB s zs with
  | false =>
    have N := Lib.hid (pOk_bad s zs x ho)
    have HO := Lib.hid ho
    clear ho
    go_enter Try.func120, Try.ntmps120
    go_wp2_with fail
    refine (iTourOk_any A c s zs _ (h.rowAt (by go_grown) (Nat.le_refl _)) hl).mono ?_
    rw [HO.out]
    rintro e w1 ⟨rfl, hb⟩
    obtain ⟨⟨k0, k1⟩, ⟨j0, j1⟩, ⟨f0, f1⟩, hbw, hsz⟩ := res2 hb
    clear hb
    go_wp2
    refine bodyPost_ret (v := .tuple #[.agg #[.int .i64 0, .slice none 0 0], .bool false]) (by simp [results, Try.results120, go_sem, j0, j1]) rfl (part_none N.out ?_)
    refine (hbw.setCell ?_ _).setCell ?_ _
    all_goals (show _ ≤ _; simp)
  | true =>
    obtain ⟨W, rfl, rfl, hT⟩ := ok_tour ho
    have g1 := hT.h1
    have g8 := hT.h8
    obtain ⟨p1, p2⟩ := pow_bd W.length g1 g8
    by_cases hx : 1 ≤ x ∧ x ≤ 2 ^ W.length - 1
    · obtain ⟨x1, x2⟩ := hx
      have hp : pOk (W.length : Int) (casts W) x = true := by unfold pOk; rw [ho, casts_length, decide_eq_true x1, decide_eq_true x2]; rfl
      have R1 : tPartTour (W.length : Int) (casts W) x = ((mem 8 x.toNat).length : Int) := by unfold tPartTour; rw [hp]; rfl
      have R2 : rPartTour (W.length : Int) (casts W) x = casts (partW W x.toNat) := by unfold rPartTour; rw [hp, toW_casts]; rfl
      have R3 : bPartTour (W.length : Int) (casts W) x = true := hp
      obtain ⟨y, rfl⟩ := Int.eq_ofNat_of_zero_le (show 0 ≤ x by omega)
      have hy : y < 2 ^ W.length := by have := Nat.two_pow_pos W.length; rw [pow_cast] at x2; omega
      have hy8 := pow_le8 W.length g8
      rw [casts_length, R1, R2, R3, Int.toNat_natCast]
      clear hp R1 R2 R3 ho hl
      go_enter Try.func120, Try.ntmps120
      go_wp2_with fail
      refine (iTourOkW A c W _ hT (h.rowAt (by go_grown) (Nat.le_refl _))).mono ?_
      rintro e w1 ⟨rfl, hb⟩
      obtain ⟨⟨k0, k1⟩, ⟨j0, j1⟩, ⟨f0, f1⟩, hbw, hsz⟩ := res2 hb
      have h := h.rowAt hbw (Nat.le_refl _)
      clear hb
      go_wp2_with (first
        | (go_at_call 97; refine (within_yes _ _ _ _ x1 x2).mono ?_; rintro e w' ⟨rfl, rfl⟩))
      refine (membersOf_any _ _ (by omega) (by omega)).mono ?_
      rintro e w2 ⟨B, d, rfl, hown, hb2⟩
      rw [Int.toNat_natCast] at hown
      rw [Int.toNat_natCast, casts_length]
      have hmp := mem_pos W.length y (by omega) hy g8
      have hm8 := mem_le8 y
      have hbw2 := below_trans hbw hb2
      obtain ⟨c0, c1⟩ := held_at k0 k1 hb2
      obtain ⟨⟨s0, s1⟩, ⟨t0, t1⟩⟩ := res_keep j0 j1 f0 f1 hb2
      have hz2 := hb2.size
      obtain ⟨w3, hw3⟩ : ∃ w3, w3 = w2.alloc (.cells #[.slice B (mem 8 y).length d] 22) := ⟨_, rfl⟩
      have hb3 : Below w2.heap.size w2 w3 := by rw [hw3]; go_grown
      obtain ⟨e0, e1⟩ := held_at c0 c1 hb3
      obtain ⟨⟨s0', s1'⟩, ⟨t0', t1'⟩⟩ := res_keep s0 s1 t0 t1 hb3
      have kq : w3.cell? ⟨w2.heap.size, 0, none⟩ = some (.slice B (mem 8 y).length d) := by rw [hw3]; go_simp
      have d0 : (w2.alloc (.cells #[.slice B (mem 8 y).length d] 22)).cell? ⟨w.heap.size, 0, none⟩ = some (.int .i64 (W.length : Int)) := by rw [← hw3]; exact e0
      have hr := (hown.row.below hb3 (Nat.le_refl _)).mono hb3.size
      have h3 := h.rowAt (below_trans hb2 hb3) (Nat.le_refl _)
      have hbw3 := below_trans hbw2 hb3
      have HP := Lib.hid (part_pred A c W y w3 hT h3 hy w.heap.size w2.heap.size e0 e1 B (mem 8 y).length d kq rfl hr)
      clear hown hr
      go_wp2_with fail
      rw [← hw3]
      clear hw3 d0
      refine (tourOf_any 141 _ (enters_of Try.func141 (by kernel_rfl) rfl) _ (mem 8 y).length _ HP.out hmp hm8).mono ?_
      rintro e w4 ⟨B4, d4, rfl, ho4, hb4⟩
      obtain ⟨⟨r0, r1⟩, ⟨q0, q1⟩⟩ := res_keep s0' s1' t0' t1' hb4
      clear s0 s1 t0 t1 s0' s1' t0' t1' j0 j1 f0 f1
      go_wp2
      refine bodyPost_ret (v := .tuple #[.agg #[.int .i64 ((mem 8 y).length : Int), .slice B4 (casts (partW W y)).length d4], .bool true]) (by simp [results, Try.results120, go_sem, r0, r1]; rfl) rfl ⟨B4, d4, rfl, ?_, ?_⟩
      · refine Own.mono (Own.setCell (Own.setCell ho4 ?_ _) ?_ _) hbw3.size (by simp)
        all_goals (left; show w.heap.size + 1 < w3.heap.size; have := hb3.size; omega)
      · refine ((below_trans hbw3 hb4).setCell ?_ _).setCell ?_ _
        all_goals (show _ ≤ _; simp)
    · have hx' : x < 1 ∨ 2 ^ W.length - 1 < x := by omega
      have N := Lib.hid (pOk_out (W.length : Int) (casts W) x (by rw [casts_length]; exact hx'))
      rw [casts_length]
      clear hx ho hl
      go_enter Try.func120, Try.ntmps120
      go_wp2_with fail
      refine (iTourOkW A c W _ hT (h.rowAt (by go_grown) (Nat.le_refl _))).mono ?_
      rintro e w1 ⟨rfl, hb⟩
      obtain ⟨⟨k0, k1⟩, ⟨j0, j1⟩, ⟨f0, f1⟩, hbw, hsz⟩ := res2 hb
      have h := h.rowAt hbw (Nat.le_refl _)
      clear hb
      go_wp2_with (go_at_call 97; refine (within_no _ _ _ _ hx').mono ?_; rintro e w' ⟨rfl, rfl⟩)
      refine bodyPost_ret (v := .tuple #[.agg #[.int .i64 0, .slice none 0 0], .bool false]) (by simp [results, Try.results120, go_sem, j0, j1]) rfl (part_none N.out ?_)
      refine (hbw.setCell ?_ _).setCell ?_ _
      all_goals (show _ ≤ _; simp)
/-- a beats number j of a list. -/
def ptF (W : List Nat) (a : Nat) (ms : List Nat) (j : Nat) : Bool := bt W a (ms.getD j 0)
set_option maxHeartbeats 1600000 in
theorem sPartTour_any (A : Option Addr) (c : Nat) (s : Int) (zs : List Int) (x : Int) (w : World) (h : Row w w.heap.size A (ints zs)) (hl : zs.length ≤ 1099511627776) (_ : (Lit.int .i64 x).wf = true) :
    Calls Try.prog 73 #[.agg #[.int .i64 s, .slice A zs.length c], .int .i64 x] w (NewTourOk w (tPartTour s zs x) (rPartTour s zs x) (bPartTour s zs x)) := by
  cases ho : okB s zs with
  | false =>
    have N := Lib.hid (pOk_bad s zs x ho)
    have HO := Lib.hid ho
    clear ho
    go_enter Try.func73, Try.ntmps73
    go_wp2_with fail
    refine (sTourOk_any A c s zs _ (h.rowAt (by go_grown) (Nat.le_refl _)) hl).mono ?_
    rw [HO.out]
    rintro e w1 ⟨rfl, hb⟩
    obtain ⟨⟨k0, k1⟩, ⟨j0, j1⟩, ⟨f0, f1⟩, hbw, hsz⟩ := res2 hb
    clear hb
    go_wp2
    refine bodyPost_ret (v := .tuple #[.agg #[.int .i64 0, .slice none 0 0], .bool false]) (by simp [results, Try.results73, go_sem, j0, j1]) rfl (part_none N.out ?_)
    refine (hbw.setCell ?_ _).setCell ?_ _
    all_goals (show _ ≤ _; simp)
  | true =>
    obtain ⟨W, rfl, rfl, hT⟩ := ok_tour ho
    have g1 := hT.h1
    have g8 := hT.h8
    obtain ⟨p1, p2⟩ := pow_bd W.length g1 g8
    by_cases hx : 1 ≤ x ∧ x ≤ 2 ^ W.length - 1
    · obtain ⟨x1, x2⟩ := hx
      have hp : pOk (W.length : Int) (casts W) x = true := by unfold pOk; rw [ho, casts_length, decide_eq_true x1, decide_eq_true x2]; rfl
      have R1 : tPartTour (W.length : Int) (casts W) x = ((mem 8 x.toNat).length : Int) := by unfold tPartTour; rw [hp]; rfl
      have R2 : rPartTour (W.length : Int) (casts W) x = casts (partW W x.toNat) := by unfold rPartTour; rw [hp, toW_casts]; rfl
      have R3 : bPartTour (W.length : Int) (casts W) x = true := hp
      obtain ⟨y, rfl⟩ := Int.eq_ofNat_of_zero_le (show 0 ≤ x by omega)
      have hy : y < 2 ^ W.length := by have := Nat.two_pow_pos W.length; rw [pow_cast] at x2; omega
      have hy8 := pow_le8 W.length g8
      rw [casts_length, R1, R2, R3, Int.toNat_natCast]
      clear hp R1 R2 R3 ho hl
      go_enter Try.func73, Try.ntmps73
      go_wp2_with fail
      refine (sTourOkW A c W _ hT (h.rowAt (by go_grown) (Nat.le_refl _))).mono ?_
      rintro e w1 ⟨rfl, hb⟩
      obtain ⟨⟨k0, k1⟩, ⟨j0, j1⟩, ⟨f0, f1⟩, hbw, hsz⟩ := res2 hb
      have h := h.rowAt hbw (Nat.le_refl _)
      clear hb
      go_wp2_with fail
      refine (l02All_any A c W.length _ g1 g8).mono ?_
      rintro e w2 ⟨rfl, hb2⟩
      obtain ⟨k0, k1⟩ := held_at k0 k1 hb2
      obtain ⟨⟨j0, j1⟩, ⟨f0, f1⟩⟩ := res_keep j0 j1 f0 f1 hb2
      have h := h.rowAt hb2 (Nat.le_refl _)
      have hbw := below_trans hbw hb2
      have hz2 := hb2.size
      go_wp2_with (first
        | (go_at_call 86; refine (sIn_yes _ _ _ _ x1 x2).mono ?_; rintro e w' ⟨rfl, rfl⟩))
      refine (l02List_any _ _ (by omega) (by omega)).mono ?_
      rintro e w3 ⟨B, d, rfl, hown, hb3⟩
      rw [Int.toNat_natCast] at hown
      rw [Int.toNat_natCast, casts_length]
      have hmp := mem_pos W.length y (by omega) hy g8
      have hm8 := mem_le8 y
      obtain ⟨k0, k1⟩ := held_at k0 k1 hb3
      obtain ⟨⟨j0, j1⟩, ⟨f0, f1⟩⟩ := res_keep j0 j1 f0 f1 hb3
      have h := h.rowAt hb3 (Nat.le_refl _)
      have hbw := below_trans hbw hb3
      have hz3 := hb3.size
      have hr := hown.row
      have HMB := Lib.hid (mem_bt W.length y hy)
      have HPR := Lib.hid (partW_row W hT y)
      have HPT := Lib.hid (partW_take W y)
      have HPL := Lib.hid (partW_length W y)
      generalize mem 8 y = ms at *
      clear hown hb3 hb2
      go_wp2
      obtain ⟨w4, hw4⟩ : ∃ w4, w4 = w3.alloc (.cells #[.int .i64 (ms.length : Int), .slice none 0 0] 27) := ⟨_, rfl⟩
      rw [← hw4]
      have o0 : w4.cell? ⟨w3.heap.size, 0, none⟩ = some (.int .i64 (ms.length : Int)) := by rw [hw4]; go_simp
      have o1 : w4.cell? ⟨w3.heap.size, 1, none⟩ = some (.slice none 0 0) := by rw [hw4]; go_simp
      have q0 : w4.frozen? ⟨w3.heap.size, 0, none⟩ = false := by rw [hw4]; go_simp
      have q1 : w4.frozen? ⟨w3.heap.size, 1, none⟩ = false := by rw [hw4]; go_simp
      have hbn : Below w3.heap.size w3 w4 := by rw [hw4]; go_grown
      have hz4 : w4.heap.size = w3.heap.size + 1 := by rw [hw4]; simp
      clear hw4
      go_loopw [31] (fun i wr => ∃ (k : Nat) (B2 : Option Addr) (d2 : Nat), k ≤ ms.length ∧ i = .int .i64 k ∧ wr.cell? ⟨w3.heap.size, 0, none⟩ = some (.int .i64 (ms.length : Int)) ∧ wr.cell? ⟨w3.heap.size, 1, none⟩ = some (.slice B2 k d2) ∧ wr.frozen? ⟨w3.heap.size, 0, none⟩ = false ∧ wr.frozen? ⟨w3.heap.size, 1, none⟩ = false ∧ Own wr (w3.heap.size + 1) wr.heap.size 3 B2 d2 (ints (casts ((partW W y).take k))) ∧ Below w3.heap.size w3 wr ∧ w3.heap.size + 1 ≤ wr.heap.size) (fun i _ => ms.length - (intOf i).toNat)
      case atStart => exact ⟨0, none, 0, Nat.zero_le _, rfl, o0, o1, q0, q1, Own.nil _ _ _ _, hbn, by omega⟩
      case round =>
        clear o0 o1 q0 q1 hbn hz4
        obtain ⟨k, B2, d2, hk, rfl, o0, o1, q0, q1, ho, hb, hzr⟩ := hrel
        obtain ⟨wo, rfl⟩ : ∃ wo : World, wo = wr := ⟨_, rfl⟩
        have HO := Lib.hid ho
        clear ho
        by_cases hlt : k < ms.length
        · obtain ⟨b1, off1, rfl, hlb, hc⟩ := (hr.below hb (Nat.le_refl _)).nat hlt
          have ha := HMB.out k hlt
          have hrr := HPR.out k hlt
          have HT := Lib.hid (HPT.out k hlt)
          rw [getD_lt _ _ _ hlt] at ha hrr
          have HR : Hid ((partW W y).getD k 0 = ofB ms.length (ptF W ms[k] ms)) := Lib.hid hrr
          clear hrr
          generalize ms[k] = a at *
          go_wp2
          go_loopw [10, 37] (fun v i wr => ∃ j : Nat, j ≤ ms.length ∧ i = .int .i64 j ∧ v = .int .i64 (ofB j (ptF W a ms) : Nat) ∧ Below wo.heap.size wo wr) (fun _ i _ => ms.length - (intOf i).toNat)
          case atStart => exact ⟨0, Nat.zero_le _, rfl, rfl, Below.refl _ _⟩
          case round =>
            obtain ⟨j, hj, rfl, rfl, hb2⟩ := hrel
            have hb32 := hb.trans (hb2.mono hb.size)
            by_cases hltj : j < ms.length
            · obtain ⟨b2, off2, e2, _, hcj⟩ := (hr.below hb32 (Nat.le_refl _)).nat hltj
              simp only [Option.some.injEq, Addr.mk.injEq, and_true] at e2
              obtain ⟨rfl, rfl⟩ := e2
              have hbj := HMB.out j hltj
              have hle := ofB_le ms.length (j + 1) (ptF W a ms) (by omega) hm8
              obtain ⟨u1, u2⟩ := pow_small j (by omega)
              have hgj : ms.getD j 0 = ms[j] := getD_lt _ _ _ hltj
              have HGJ := Lib.hid hgj
              rw [hgj] at hbj
              clear hgj
              obtain ⟨c0, c1⟩ := held_at k0 k1 hb32
              have HC := Lib.hid (fun v hv => l02BeatsW_any A c W a (ms[j]'hltj) v hv wr hT (h.rowAt hb32 (Nat.le_refl _)) ha hbj)
              cases hv : bt W a ms[j] with
              | true =>
                have hpt : ptF W a ms j = true := by unfold ptF; rw [HGJ.out, hv]
                have E1 : Hid (((ofB (j + 1) (ptF W a ms) : Nat) : Int) = (ofB j (ptF W a ms) : Nat) + 2 ^ j) := Lib.hid (by rw [ofB, hpt, if_pos rfl, Int.natCast_add, pow_cast])
                rw [ofB, hpt, if_pos rfl] at hle
                clear hpt
                have hle2 : ((ofB j (ptF W a ms) : Nat) : Int) + 2 ^ j < 256 := by rw [pow_cast]; omega
                have HV := Lib.hid hv
                clear hv hle
                generalize ms[j] = bb at *
                go_wp2_with fail
                refine (HC.out true HV.out).mono ?_
                rintro e wq ⟨rfl, hq⟩
                go_wp2
                go_roundw
                case rel => exact ⟨j + 1, by omega, by go_num, by rw [E1.out], below_trans hb2 hq⟩
                case measure => simp [intOf]; omega
              | false =>
                have E1 : Hid (ofB (j + 1) (ptF W a ms) = ofB j (ptF W a ms)) := Lib.hid (by rw [ofB, show ptF W a ms j = false by unfold ptF; rw [HGJ.out, hv]]; simp)
                have HV := Lib.hid hv
                clear hv hle
                generalize ms[j] = bb at *
                go_wp2_with fail
                refine (HC.out false HV.out).mono ?_
                rintro e wq ⟨rfl, hq⟩
                go_wp2
                go_roundw
                case rel => exact ⟨j + 1, by omega, by go_num, by rw [E1.out], below_trans hb2 hq⟩
                case measure => simp [intOf]; omega
            · obtain rfl : j = ms.length := by omega
              have HO2 := Lib.hid (HO.out.below hb2 (Nat.le_refl _))
              have o0' := (hb2.cell (p := ⟨w3.heap.size, 0, none⟩) (by show w3.heap.size < _; omega)).trans o0
              have o1' := (hb2.cell (p := ⟨w3.heap.size, 1, none⟩) (by show w3.heap.size < _; omega)).trans o1
              have q0' := (hb2.frozen (p := ⟨w3.heap.size, 0, none⟩) (by show w3.heap.size < _; omega)).trans q0
              have q1' := (hb2.frozen (p := ⟨w3.heap.size, 1, none⟩) (by show w3.heap.size < _; omega)).trans q1
              have hz2' := hb2.size
              clear o0 o1 q0 q1
              rw [← HR.out]
              generalize (partW W y).getD k 0 = pv at *
              have d1 : ∀ o, (wr.alloc o).cell? ⟨w3.heap.size, 1, none⟩ = some (.slice B2 k d2) := fun o => (World.cell?_alloc_lt wr o _ (by show w3.heap.size < _; omega)).trans o1'
              go_wp2_with (at_builtin; refine wpList_push rfl (.tmp 52) (.tmp 54) rfl (w3.heap.size + 1) wo.heap.size B2 d2 k (casts ((partW W y).take k)) (pv : Int) wr.heap.size rfl rfl ?c0 ?c1 ?c2 ?c3 ?c4 ?_)
              case c0 => rw [casts_length, List.length_take, HPL.out]; omega
              case c1 => exact HO2.out.alloc hz2' _
              case c2 => go_simp
              case c3 => omega
              case c4 => simp; omega
              intro A' c' w5 ho5 hg5
              have hqa := (Below.refl wr.heap.size wr).alloc (Nat.le_refl _) (.cells #[.int .i64 (pv : Int)] 3)
              have z0 := (hg5.cell (p := ⟨w3.heap.size, 0, none⟩) (by simp; omega) (by simp)).trans ((hqa.cell (p := ⟨w3.heap.size, 0, none⟩) (by show w3.heap.size < _; omega)).trans o0')
              have z1 := (hg5.cell (p := ⟨w3.heap.size, 1, none⟩) (by simp; omega) (by simp)).trans ((hqa.cell (p := ⟨w3.heap.size, 1, none⟩) (by show w3.heap.size < _; omega)).trans o1')
              have y0 := (hg5.frozen (p := ⟨w3.heap.size, 0, none⟩) (by simp; omega) (by simp)).trans ((hqa.frozen (p := ⟨w3.heap.size, 0, none⟩) (by show w3.heap.size < _; omega)).trans q0')
              have y1 := (hg5.frozen (p := ⟨w3.heap.size, 1, none⟩) (by simp; omega) (by simp)).trans ((hqa.frozen (p := ⟨w3.heap.size, 1, none⟩) (by show w3.heap.size < _; omega)).trans q1')
              have HO5 := Lib.hid ho5
              have hz5 := hg5.size
              simp only [World.size_alloc] at hz5
              have hh5 : Below w3.heap.size w3 w5 := (hb32.trans (hqa.mono hb32.size)).trans (hg5.below (by omega) (by simp; omega))
              clear ho5 hg5 hqa d1 o0' o1' q0' q1'
              go_wp2
              go_roundw
              case rel => exact ⟨k + 1, A', c', by omega, by go_num, by go_simp, by go_simp, by go_simp, by go_simp, by rw [HT.out, casts_append]; exact Own.mono (Own.setCell HO5.out (.inl (by show w3.heap.size < _; omega)) _) (Nat.le_refl _) (by simp), hh5.setCell (p := ⟨w3.heap.size, 1, none⟩) (Nat.le_refl _) _, by simp; omega⟩
              case measure => simp [intOf]; omega
        · obtain rfl : k = ms.length := by omega
          have HT : Hid ((partW W y).take ms.length = partW W y) := Lib.hid (List.take_of_length_le (by rw [HPL.out]; omega))
          rw [HT.out] at HO
          obtain ⟨⟨s0, s1⟩, ⟨t0, t1⟩⟩ := res_keep j0 j1 f0 f1 hb
          clear j0 j1 f0 f1
          go_wp2
          refine bodyPost_ret (v := .tuple #[.agg #[.int .i64 (ms.length : Int), .slice B2 ms.length d2], .bool true]) (by simp [results, Try.results73, go_sem, s0, s1]) rfl ⟨B2, d2, ?_, ?_, ?_⟩
          · rw [casts_length, HPL.out]
          · refine Own.mono (Own.setCell (Own.setCell HO.out ?_ _) ?_ _) (Nat.le_trans hbw.size (Nat.le_succ _)) (by simp)
            all_goals (left; show w.heap.size + 1 < w3.heap.size + 1; omega)
          · refine ((below_trans hbw hb).setCell ?_ _).setCell ?_ _
            all_goals (show _ ≤ _; simp)
    · have hx' : x < 1 ∨ 2 ^ W.length - 1 < x := by omega
      have N := Lib.hid (pOk_out (W.length : Int) (casts W) x (by rw [casts_length]; exact hx'))
      rw [casts_length]
      clear hx ho hl
      go_enter Try.func73, Try.ntmps73
      go_wp2_with fail
      refine (sTourOkW A c W _ hT (h.rowAt (by go_grown) (Nat.le_refl _))).mono ?_
      rintro e w1 ⟨rfl, hb⟩
      obtain ⟨⟨k0, k1⟩, ⟨j0, j1⟩, ⟨f0, f1⟩, hbw, hsz⟩ := res2 hb
      have h := h.rowAt hbw (Nat.le_refl _)
      clear hb
      go_wp2_with fail
      refine (l02All_any A c W.length _ g1 g8).mono ?_
      rintro e w2 ⟨rfl, hb2⟩
      obtain ⟨⟨j0, j1⟩, ⟨f0, f1⟩⟩ := res_keep j0 j1 f0 f1 hb2
      have hbw := below_trans hbw hb2
      go_wp2_with (go_at_call 86; refine (sIn_no _ _ _ _ hx').mono ?_; rintro e w' ⟨rfl, rfl⟩)
      refine bodyPost_ret (v := .tuple #[.agg #[.int .i64 0, .slice none 0 0], .bool false]) (by simp [results, Try.results73, go_sem, j0, j1]) rfl (part_none N.out ?_)
      refine (hbw.setCell ?_ _).setCell ?_ _
      all_goals (show _ ≤ _; simp)
end Go.Proofs.Ytboekpmaefcmdaa
