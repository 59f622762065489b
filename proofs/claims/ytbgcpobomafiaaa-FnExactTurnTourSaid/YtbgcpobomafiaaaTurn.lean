/- The turned tour: TurnTour, walked. -/
import Derived.Test.YtbgcpobomafiaaaTRes
import Derived.Test.YtbgcpobomafiaaaTourOf
import Derived.Test.YtbgcpobomafiaaaBits2
import Derived.Test.YtbgcpobomafiaaaScore
import Derived.Deep.RegionLaw
namespace Go.Proofs.Ytbgcpobomafiaaa
open Go.RowKit

/-- The rows of wins with all results turned. -/
def turnW (W : List Nat) : List Nat := rowsOf W.length fun a b => bt W b a
theorem turnW_length (W : List Nat) : (turnW W).length = W.length := rowsOf_length _ _
theorem bt_ofB (W : List Nat) (hT : IsT W) (a : Nat) : W.getD a 0 = ofB W.length (bt W a) := (ofB_testBit W.length _ (hT.lt a)).symm
theorem turn_sum (W : List Nat) (hT : IsT W) (a : Nat) (ha : a < W.length) : (turnW W).getD a 0 + W.getD a 0 + 2 ^ a = 2 ^ W.length - 1 := by
  have e : (turnW W).getD a 0 = ofB W.length (hb (fun a b => bt W b a) a) := by
    rw [getD_lt _ _ _ (by rw [turnW_length]; exact ha)]
    simp [turnW, rowsOf]
  rw [e, bt_ofB W hT a, ← ofB_one W.length a ha, ofB_add _ _ _ ?_, ofB_add _ _ _ ?_, ← ofB_all]
  · refine ofB_congr _ _ _ fun i hi => ?_
    unfold Go.Proofs.Ytbgcpobomafiaaa.hb
    by_cases e : a = i
    · subst e; simp
    · have := hT.pair a i ha hi e
      have e' : ¬ i = a := fun h => e h.symm
      simp [e, e', this]
  · intro i hi
    unfold Go.Proofs.Ytbgcpobomafiaaa.hb
    by_cases e : a = i
    · subst e; simp [hT.self]
    · have e' : ¬ i = a := fun h => e h.symm
      simp [e']
  · intro i hi
    unfold Go.Proofs.Ytbgcpobomafiaaa.hb
    by_cases e : a = i
    · subst e; simp
    · have := hT.pair a i ha hi e
      rw [this]
      simp [e]
theorem turn_val (W : List Nat) (hT : IsT W) (a : Nat) (ha : a < W.length) : (2 : Int) ^ W.length - 1 - (W[a] : Nat) - 2 ^ a = ((turnW W).getD a 0 : Nat) := by
  have := turn_sum W hT a ha
  rw [getD_lt W a 0 ha] at this
  have hp := Nat.two_pow_pos W.length
  rw [pow_cast, pow_cast]
  omega
theorem turn_take (W : List Nat) (k : Nat) (h : k < W.length) : (turnW W).take (k + 1) = (turnW W).take k ++ [(turnW W).getD k 0] := by
  rw [List.take_succ_eq_append_getElem (by rwa [turnW_length]), getD_lt _ _ _ (by rwa [turnW_length])]

def tTurnTour (s : Int) (zs : List Int) : Int := if okB s zs then ((toW zs).length : Int) else 0
def rTurnTour (s : Int) (zs : List Int) : List Int := if okB s zs then casts (turnW (toW zs)) else []
def bTurnTour (s : Int) (zs : List Int) : Bool := okB s zs
theorem rTurnTour_len (s : Int) (zs : List Int) : (rTurnTour s zs).length ≤ 1048576 := by
  unfold rTurnTour
  split
  · rename_i h
    obtain ⟨W, rfl, rfl, hT⟩ := ok_tour h
    have := hT.h8
    rw [casts_length, toW_casts, turnW_length]
    omega
  · simp

theorem turn_pred (A : Option Addr) (c : Nat) (W : List Nat) (w : World) (hT : IsT W) (h : Row w w.heap.size A (ints (casts W))) (b : Nat) (k0 : w.cell? ⟨b, 0, none⟩ = some (.int .i64 (W.length : Int))) (k1 : w.cell? ⟨b, 1, none⟩ = some (.slice A W.length c)) :
    PredTwo 68 #[.pointer (some ⟨b, 0, none⟩)] (fun x y => bt W y x) W.length w := by
  intro V x y hb hx hy _
  obtain ⟨c0, c1⟩ := held_at k0 k1 hb
  have HC := Lib.hid (beatsW_any A c W y x _ rfl V hT (h.rowAt hb (Nat.le_refl _)) hy hx)
  clear k0 k1 h
  go_enter Try.func68, Try.ntmps68
  go_wp2_with fail
  refine HC.out.mono ?_
  rintro e w2 ⟨rfl, hq⟩
  go_wp2
  go_ret
  exact ⟨rfl, hq⟩
theorem iTurnTour_any (A : Option Addr) (c : Nat) (s : Int) (zs : List Int) (w : World) (h : Row w w.heap.size A (ints zs)) (hl : zs.length ≤ 1099511627776) :
    Calls Try.prog 41 #[.agg #[.int .i64 s, .slice A zs.length c]] w (NewTourOk w (tTurnTour s zs) (rTurnTour s zs) (bTurnTour s zs)) := by
  cases ho : okB s zs with
  | false =>
    have N1 : Hid (tTurnTour s zs = 0) := Lib.hid (by unfold tTurnTour; rw [ho]; rfl)
    have N2 : Hid (rTurnTour s zs = []) := Lib.hid (by unfold rTurnTour; rw [ho]; rfl)
    have N3 : Hid (bTurnTour s zs = false) := Lib.hid (by unfold bTurnTour; simp [ho])
    have HO := Lib.hid ho
    clear ho
    go_enter Try.func41, Try.ntmps41
    go_wp2_with fail
    refine (iTourOk_any A c s zs _ (h.rowAt (by go_grown) (Nat.le_refl _)) hl).mono ?_
    rw [HO.out]
    rintro e w1 ⟨rfl, hb⟩
    obtain ⟨⟨k0, k1⟩, ⟨j0, j1⟩, ⟨f0, f1⟩, hbw, hsz⟩ := res2 hb
    clear hb
    go_wp2
    refine bodyPost_ret (v := .tuple #[.agg #[.int .i64 0, .slice none 0 0], .bool false]) (by simp [results, Try.results41, go_sem, j0, j1]) rfl (newTourOk_none N1.out N2.out N3.out ?_)
    refine (hbw.setCell ?_ _).setCell ?_ _
    all_goals (show _ ≤ _; simp)
  | true =>
    obtain ⟨W, rfl, rfl, hT⟩ := ok_tour ho
    have R1 : tTurnTour (W.length : Int) (casts W) = ((W.length : Int)) := by unfold tTurnTour; rw [ho, toW_casts]; rfl
    have R2 : rTurnTour (W.length : Int) (casts W) = (casts (turnW W)) := by unfold rTurnTour; rw [ho, toW_casts]; rfl
    have R3 : bTurnTour (W.length : Int) (casts W) = true := by unfold bTurnTour; simp [ho]
    have g1 := hT.h1
    have g8 := hT.h8
    rw [casts_length, R1, R2, R3]
    clear ho hl R1 R2 R3
    go_enter Try.func41, Try.ntmps41
    go_wp2_with fail
    refine (iTourOkW A c W _ hT (h.rowAt (by go_grown) (Nat.le_refl _))).mono ?_
    rintro e w1 ⟨rfl, hb⟩
    obtain ⟨⟨k0, k1⟩, ⟨j0, j1⟩, ⟨f0, f1⟩, hbw, hsz⟩ := res2 hb
    have h := h.rowAt hbw (Nat.le_refl _)
    clear hb
    obtain ⟨c0, c1⟩ := held_at k0 k1 (Below.refl _ _)
    go_wp2_with fail
    refine (tourOf_any 68 _ (enters_of Try.func68 (by kernel_rfl) rfl) (fun x y => bt W y x) W.length _ (turn_pred A c W _ hT h _ k0 k1) g1 g8).mono ?_
    rintro e w2 ⟨B, d, rfl, ho, hb2⟩
    obtain ⟨⟨s0, s1⟩, ⟨t0, t1⟩⟩ := res_keep j0 j1 f0 f1 hb2
    go_wp2
    refine bodyPost_ret (v := .tuple #[.agg #[.int .i64 (W.length : Int), .slice B (casts (turnW W)).length d], .bool true]) (by simp [results, Try.results41, go_sem, s0, s1]; rfl) rfl ⟨B, d, rfl, ?_, ?_⟩
    · refine Own.mono (Own.setCell (Own.setCell ho ?_ _) ?_ _) hbw.size (by simp)
      all_goals (left; show w.heap.size + 1 < w1.heap.size; omega)
    · refine ((below_trans hbw hb2).setCell ?_ _).setCell ?_ _
      all_goals (show _ ≤ _; simp)
set_option maxHeartbeats 1000000 in
theorem sTurnTour_any (A : Option Addr) (c : Nat) (s : Int) (zs : List Int) (w : World) (h : Row w w.heap.size A (ints zs)) (hl : zs.length ≤ 1099511627776) :
    Calls Try.prog 40 #[.agg #[.int .i64 s, .slice A zs.length c]] w (NewTourOk w (tTurnTour s zs) (rTurnTour s zs) (bTurnTour s zs)) := by
  cases ho : okB s zs with
  | false =>
    have N1 : Hid (tTurnTour s zs = 0) := Lib.hid (by unfold tTurnTour; rw [ho]; rfl)
    have N2 : Hid (rTurnTour s zs = []) := Lib.hid (by unfold rTurnTour; rw [ho]; rfl)
    have N3 : Hid (bTurnTour s zs = false) := Lib.hid (by unfold bTurnTour; simp [ho])
    have HO := Lib.hid ho
    clear ho
    go_enter Try.func40, Try.ntmps40
    go_wp2_with fail
    refine (sTourOk_any A c s zs _ (h.rowAt (by go_grown) (Nat.le_refl _)) hl).mono ?_
    rw [HO.out]
    rintro e w1 ⟨rfl, hb⟩
    obtain ⟨⟨k0, k1⟩, ⟨j0, j1⟩, ⟨f0, f1⟩, hbw, hsz⟩ := res2 hb
    clear hb
    go_wp2
    refine bodyPost_ret (v := .tuple #[.agg #[.int .i64 0, .slice none 0 0], .bool false]) (by simp [results, Try.results40, go_sem, j0, j1]) rfl (newTourOk_none N1.out N2.out N3.out ?_)
    refine (hbw.setCell ?_ _).setCell ?_ _
    all_goals (show _ ≤ _; simp)
  | true =>
    obtain ⟨W, rfl, rfl, hT⟩ := ok_tour ho
    have R1 : tTurnTour (W.length : Int) (casts W) = ((W.length : Int)) := by unfold tTurnTour; rw [ho, toW_casts]; rfl
    have R2 : rTurnTour (W.length : Int) (casts W) = (casts (turnW W)) := by unfold rTurnTour; rw [ho, toW_casts]; rfl
    have R3 : bTurnTour (W.length : Int) (casts W) = true := by unfold bTurnTour; simp [ho]
    have g1 := hT.h1
    have g8 := hT.h8
    rw [casts_length, R1, R2, R3]
    clear ho hl R1 R2 R3
    go_enter Try.func40, Try.ntmps40
    go_wp2_with fail
    refine (sTourOkW A c W _ hT (h.rowAt (by go_grown) (Nat.le_refl _))).mono ?_
    rintro e w1 ⟨rfl, hb⟩
    obtain ⟨⟨k0, k1⟩, ⟨j0, j1⟩, ⟨f0, f1⟩, hbw, hsz⟩ := res2 hb
    have h := h.rowAt hbw (Nat.le_refl _)
    clear hb
    have d1 : (w1.alloc (.cells #[.int .i64 (W.length : Int), .slice none 0 0] 33)).cell? ⟨w.heap.size, 1, none⟩ = some (.slice A W.length c) := (World.cell?_alloc_lt w1 _ _ (by show w.heap.size < _; omega)).trans k1
    go_wp2
    obtain ⟨w2, hw2⟩ : ∃ w2, w2 = w1.alloc (.cells #[.int .i64 (W.length : Int), .slice none 0 0] 33) := ⟨_, rfl⟩
    rw [← hw2]
    have o0 : w2.cell? ⟨w1.heap.size, 0, none⟩ = some (.int .i64 (W.length : Int)) := by rw [hw2]; go_simp
    have o1 : w2.cell? ⟨w1.heap.size, 1, none⟩ = some (.slice none 0 0) := by rw [hw2]; go_simp
    have p0 : w2.frozen? ⟨w1.heap.size, 0, none⟩ = false := by rw [hw2]; go_simp
    have p1 : w2.frozen? ⟨w1.heap.size, 1, none⟩ = false := by rw [hw2]; go_simp
    have hbn : Below w1.heap.size w1 w2 := by rw [hw2]; go_grown
    have hz2 : w2.heap.size = w1.heap.size + 1 := by rw [hw2]; simp
    clear hw2 d1
    go_loopw [17] (fun i wr => ∃ (k : Nat) (B : Option Addr) (d : Nat), k ≤ W.length ∧ i = .int .i64 k ∧ wr.cell? ⟨w1.heap.size, 0, none⟩ = some (.int .i64 (W.length : Int)) ∧ wr.cell? ⟨w1.heap.size, 1, none⟩ = some (.slice B k d) ∧ wr.frozen? ⟨w1.heap.size, 0, none⟩ = false ∧ wr.frozen? ⟨w1.heap.size, 1, none⟩ = false ∧ Own wr (w1.heap.size + 1) wr.heap.size 3 B d (ints (casts ((turnW W).take k))) ∧ Below w1.heap.size w1 wr ∧ w1.heap.size + 1 ≤ wr.heap.size) (fun i _ => W.length - (intOf i).toNat)
    case atStart => exact ⟨0, none, 0, Nat.zero_le _, rfl, o0, o1, p0, p1, Own.nil _ _ _ _, hbn, by omega⟩
    case round =>
      clear o0 o1 p0 p1 hbn hz2
      obtain ⟨k, B, d, hk, rfl, o0, o1, p0, p1, ho, hb, hzr⟩ := hrel
      have HO := Lib.hid ho
      clear ho
      obtain ⟨c0, c1⟩ := held_at k0 k1 hb
      by_cases hlt : k < W.length
      · obtain ⟨b, off, rfl, _, hc⟩ := (h.below hb (Nat.le_refl _)).nat hlt
        have HT := Lib.hid (turn_take W k hlt)
        have hv := turn_val W hT k hlt
        have hs := turn_sum W hT k hlt
        have hxl := hT.lt' hlt
        obtain ⟨pp1, pp2⟩ := pow_bd W.length g1 g8
        obtain ⟨q1, q2⟩ := pow_small k (by omega)
        rw [getD_lt W k 0 hlt] at hs
        generalize W[k] = x at *
        generalize (turnW W).getD k 0 = y at *
        have hp := Nat.two_pow_pos W.length
        have m0 : IntKind.i64.wrap (2 ^ k) = 2 ^ k := by rw [IntKind.wrap_i64]; omega
        have hxi : (x : Int) < 2 ^ W.length := by rw [pow_cast]; omega
        have m1 : IntKind.i64.wrap ((2 : Int) ^ W.length - 1 - (x : Int)) = 2 ^ W.length - 1 - (x : Int) := by rw [IntKind.wrap_i64]; omega
        have m2 : IntKind.i64.wrap ((2 : Int) ^ W.length - 1 - (x : Int) - 2 ^ k) = (y : Int) := by rw [hv, IntKind.wrap_i64]; omega
        clear hs hv hxi hp hxl
        have hbr : Below wr.heap.size wr wr := Below.refl _ _
        go_wp2
        go_region_law (first
          | (refine step_push (by rfl) (.tmp 23) (.tmp 31) (by rfl) (w1.heap.size + 1) wr.heap.size B d k (casts ((turnW W).take k)) (y : Int) wq.heap.size (by rfl) (by rfl) (by rw [casts_length, List.length_take, turnW_length]; omega) ((HO.out.below hq (Nat.le_refl _)).alloc hq.size _) (by go_simp) (by omega) (by have := hq.size; simp; omega) ?_; intro A' c' w3 ho3 hg3; have hqa := hq.alloc hq.size (.cells #[.int .i64 (y : Int)] 3); have z0 := (hg3.cell (p := ⟨w1.heap.size, 0, none⟩) (by have := hq.size; simp; omega) (by simp)).trans ((hqa.cell (p := ⟨w1.heap.size, 0, none⟩) (by show w1.heap.size < _; omega)).trans o0); have z1 := (hg3.cell (p := ⟨w1.heap.size, 1, none⟩) (by have := hq.size; simp; omega) (by simp)).trans ((hqa.cell (p := ⟨w1.heap.size, 1, none⟩) (by show w1.heap.size < _; omega)).trans o1); have y0 := (hg3.frozen (p := ⟨w1.heap.size, 0, none⟩) (by have := hq.size; simp; omega) (by simp)).trans ((hqa.frozen (p := ⟨w1.heap.size, 0, none⟩) (by show w1.heap.size < _; omega)).trans p0); have y1 := (hg3.frozen (p := ⟨w1.heap.size, 1, none⟩) (by have := hq.size; simp; omega) (by simp)).trans ((hqa.frozen (p := ⟨w1.heap.size, 1, none⟩) (by show w1.heap.size < _; omega)).trans p1))
          | (go_simp; go_at_call 64; refine (l02All_any (some ⟨b, off, none⟩) c W.length _ g1 g8).mono ?_; rintro e wq ⟨rfl, hq0⟩; have hq := below_undrew hq0; have o0q := (hq.cell (p := ⟨w1.heap.size, 0, none⟩) (by show w1.heap.size < _; omega)).trans o0; have o1q := (hq.cell (p := ⟨w1.heap.size, 1, none⟩) (by show w1.heap.size < _; omega)).trans o1; have o1a : ∀ o, (wq.alloc o).cell? ⟨w1.heap.size, 1, none⟩ = some (.slice B k d) := fun o => (World.cell?_alloc_lt wq o _ (by have := hq.size; show w1.heap.size < _; omega)).trans o1q))
        all_goals
          have HO3 := Lib.hid ho3
          have hzq := hqa.size
          have hz3 := hg3.size
          have hh3 : Below w1.heap.size w1 w3 := (hb.trans (hqa.mono hb.size)).trans (hg3.below (by omega) (by omega))
          clear ho3 hg3 hqa hq hq0 o0q o1q o1a m0 m1 m2
          go_wp2
          go_roundw
          case rel => exact ⟨k + 1, A', c', by omega, by go_num, by go_simp, by go_simp, by go_simp, by go_simp, by rw [HT.out, casts_append]; exact Own.mono (Own.setCell HO3.out (.inl (by show w1.heap.size < _; omega)) _) (Nat.le_refl _) (by simp), hh3.setCell (p := ⟨w1.heap.size, 1, none⟩) (Nat.le_refl _) _, by simp; omega⟩
          case measure => simp [intOf]; omega
      · obtain rfl : k = W.length := by omega
        have HT : Hid ((turnW W).take W.length = turnW W) := Lib.hid (List.take_of_length_le (by rw [turnW_length]; omega))
        rw [HT.out] at HO
        obtain ⟨⟨s0, s1⟩, ⟨t0, t1⟩⟩ := res_keep j0 j1 f0 f1 hb
        clear j0 j1 f0 f1
        go_wp2
        refine bodyPost_ret (v := .tuple #[.agg #[.int .i64 (W.length : Int), .slice B W.length d], .bool true]) (by simp [results, Try.results40, go_sem, s0, s1]) rfl ⟨B, d, ?_, ?_, ?_⟩
        · rw [casts_length, turnW_length]
        · refine Own.mono (Own.setCell (Own.setCell HO.out ?_ _) ?_ _) (Nat.le_trans hbw.size (Nat.le_succ _)) (by simp)
          all_goals (left; show w.heap.size + 1 < w1.heap.size + 1; omega)
        · refine ((below_trans hbw hb).setCell ?_ _).setCell ?_ _
          all_goals (show _ ≤ _; simp)
end Go.Proofs.Ytbgcpobomafiaaa
