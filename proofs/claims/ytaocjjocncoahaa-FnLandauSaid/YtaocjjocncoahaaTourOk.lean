/- The two functions TourOk, walked. -/
import Derived.Test.YtaocjjocncoahaaBeats
import Derived.Deep.RegionHeld3
namespace Go.Proofs.Ytaocjjocncoahaa
open Go.RowKit

/-- What is asked of player a: he does not beat himself, and of him and each earlier player one beats the other. -/
def okAt (zs : List Int) (a : Nat) : Bool := !bit (zs.getD a 0) a && (List.range a).all fun b => bit (zs.getD a 0) b != bit (zs.getD b 0) a
/-- A size and rows of wins are a tour. -/
def okB (s : Int) (zs : List Int) : Bool := decide (1 ≤ s) && decide (s ≤ 8) && decide ((zs.length : Int) = s) && allIn 0 (2 ^ s.toNat - 1) zs && (List.range zs.length).all (okAt zs)

theorem pow_bd (n : Nat) (h1 : 1 ≤ n) (h8 : n ≤ 8) : 2 ≤ (2 : Int) ^ n ∧ (2 : Int) ^ n ≤ 256 := by
  have h : n = 1 ∨ n = 2 ∨ n = 3 ∨ n = 4 ∨ n = 5 ∨ n = 6 ∨ n = 7 ∨ n = 8 := by omega
  rcases h with rfl | rfl | rfl | rfl | rfl | rfl | rfl | rfl <;> decide
theorem rows_bd (zs : List Int) (h8 : zs.length ≤ 8) (h : allIn 0 (2 ^ zs.length - 1) zs = true) (i : Nat) : 0 ≤ zs.getD i 0 ∧ zs.getD i 0 ≤ 255 := by
  by_cases hi : i < zs.length
  · obtain ⟨_, p2⟩ := pow_bd zs.length (by omega) h8
    unfold allIn at h
    rw [List.all_eq_true] at h
    have := h _ (List.getElem_mem hi)
    rw [getD_lt _ _ _ hi]
    simp at this
    omega
  · rw [List.getD, List.getElem?_eq_none (by omega)]
    simp

theorem okAt_no (zs : List Int) (k : Nat) (hk : k < zs.length) (h : okAt zs k = false) : (List.range zs.length).all (okAt zs) = false := by
  rw [List.all_eq_false]; exact ⟨k, by rwa [List.mem_range], by simp [h]⟩
theorem ok_pair (zs : List Int) (k j : Nat) (hk : k < zs.length) (hj : j < k) (h : (bit (zs.getD k 0) j == bit (zs.getD j 0) k) = true) : (List.range zs.length).all (okAt zs) = false := by
  refine okAt_no zs k hk ?_
  unfold okAt
  have : ((List.range k).all fun b => bit (zs.getD k 0) b != bit (zs.getD b 0) k) = false := by
    rw [List.all_eq_false]; exact ⟨j, by rwa [List.mem_range], by simpa [bne] using h⟩
  rw [this, Bool.and_false]
theorem ok_self (zs : List Int) (k : Nat) (hk : k < zs.length) (h : bit (zs.getD k 0) k = true) : (List.range zs.length).all (okAt zs) = false := by
  refine okAt_no zs k hk ?_
  unfold okAt
  rw [h]; rfl
theorem ok_round (zs : List Int) (k : Nat) (h : bit (zs.getD k 0) k = false) (hj : ∀ t, t < k → (bit (zs.getD k 0) t != bit (zs.getD t 0) k) = true) : okAt zs k = true := by
  unfold okAt
  rw [h, Bool.not_false, Bool.true_and, List.all_eq_true]
  intro t ht
  exact hj t (by rwa [List.mem_range] at ht)

theorem iTourOk_any (A : Option Addr) (c : Nat) (s : Int) (zs : List Int) (w : World) (h : Row w w.heap.size A (ints zs)) (hl : zs.length ≤ 1099511627776) :
    Calls Try.prog 50 #[.agg #[.int .i64 s, .slice A zs.length c]] w fun e w' => e = .returned (.bool (okB s zs)) ∧ Below w.heap.size w w' := by
  by_cases h8 : 1 ≤ s ∧ s ≤ 8
  · obtain ⟨g1, g2⟩ := h8
    by_cases hlen : (zs.length : Int) = s
    · obtain rfl : s = (zs.length : Int) := hlen.symm
      clear hlen
      obtain ⟨p1, p2⟩ := pow_bd zs.length (by omega) (by omega)
      have e0 : ((zs.length : Int) != (zs.length : Int)) = false := by simp
      have hw1 : IntKind.i64.wrap (2 ^ zs.length) = 2 ^ zs.length := by rw [IntKind.wrap_i64]; omega
      have hw2 : IntKind.i64.wrap (2 ^ zs.length - 1) = 2 ^ zs.length - 1 := by rw [IntKind.wrap_i64]; omega
      cases ha : allIn 0 (2 ^ zs.length - 1) zs with
      | false =>
        have N : Hid (okB (zs.length : Int) zs = false) := Lib.hid (by unfold okB; rw [Int.toNat_natCast, ha]; simp)
        have HA := Lib.hid ha
        clear ha
        go_enter Try.func50, Try.ntmps50
        go_wp2
        go_region_held3 (fun w' => w'.cell? ⟨w.heap.size, 0, none⟩ = some (.int .i64 (zs.length : Int)) ∧ w'.cell? ⟨w.heap.size, 1, none⟩ = some (.slice A zs.length c))
          (first | go_keep)
          (first
            | (go_at_call 33; refine (within_yes _ _ _ _ (by omega) (by omega)).mono ?_; rintro e w' ⟨rfl, rfl⟩)
            | (go_at_call 52; refine (allWithin_any A c zs _ _ _ (h.rowAt (by first | (go_grown; done) | (refine below_drewN ?_ _; go_grown; done)) (Nat.le_refl _)) hl).mono ?_; rw [HA.out]; rintro e w1 ⟨rfl, hb1⟩; obtain ⟨hc1, hf1⟩ := bcell hb1))
        clear hc1 hf1
        go_wp2
        go_ret
        exact ⟨ret_bool N.out.symm, Below.trans (by go_grown) (hb1.mono (by simp))⟩
      | true =>
        have HZ := Lib.hid (rows_bd zs (by omega) ha)
        have HA := Lib.hid ha
        have HE : Hid (okB (zs.length : Int) zs = (List.range zs.length).all (okAt zs)) := Lib.hid (by unfold okB; rw [Int.toNat_natCast, ha]; simp; omega)
        clear ha
        go_enter Try.func50, Try.ntmps50
        go_wp2
        go_region_held3 (fun w' => w'.cell? ⟨w.heap.size, 0, none⟩ = some (.int .i64 (zs.length : Int)) ∧ w'.cell? ⟨w.heap.size, 1, none⟩ = some (.slice A zs.length c))
          (first | go_keep)
          (first
            | (go_at_call 33; refine (within_yes _ _ _ _ (by omega) (by omega)).mono ?_; rintro e w' ⟨rfl, rfl⟩)
            | (go_at_call 52; refine (allWithin_any A c zs _ _ _ (h.rowAt (by first | (go_grown; done) | (refine below_drewN ?_ _; go_grown; done)) (Nat.le_refl _)) hl).mono ?_; rw [HA.out]; rintro e w1 ⟨rfl, hb1⟩; obtain ⟨hc1, hf1⟩ := bcell hb1))
        have k0 : w1.cell? ⟨w.heap.size, 0, none⟩ = some (.int .i64 (zs.length : Int)) := (hc1 _ _ (by simp)).trans (by go_simp)
        have k1 : w1.cell? ⟨w.heap.size, 1, none⟩ = some (.slice A zs.length c) := (hc1 _ _ (by simp)).trans (by go_simp)
        have hbw : Below w.heap.size w w1 := Below.trans (by go_grown) (hb1.mono (by simp))
        have hsz : w.heap.size < w1.heap.size := World.block_lt_of_cell? w1 _ k0
        clear hc1 hf1 hb1 hw1 hw2 e0 p1 p2
        go_wp2
        go_loopw [29] (fun i wr => ∃ k : Nat, k ≤ zs.length ∧ i = .int .i64 k ∧ Below (w.heap.size + 1) w1 wr ∧ Hid (∀ j, j < k → okAt zs j = true)) (fun i _ => zs.length - (intOf i).toNat)
        case atStart => exact ⟨0, Nat.zero_le _, rfl, Below.refl _ _, Lib.hid (fun j hj => by omega)⟩
        case round =>
          obtain ⟨k, hk, rfl, hb, HT⟩ := hrel
          have c0 := (hb.cell (p := ⟨w.heap.size, 0, none⟩) (by simp)).trans k0
          have c1 := (hb.cell (p := ⟨w.heap.size, 1, none⟩) (by simp)).trans k1
          by_cases hlt : k < zs.length
          · go_wp2
            go_loopw [33] (fun i wr => ∃ j : Nat, j ≤ k ∧ i = .int .i64 j ∧ Below (w.heap.size + 1) w1 wr ∧ Hid (∀ t, t < j → (bit (zs.getD k 0) t != bit (zs.getD t 0) k) = true)) (fun i _ => k - (intOf i).toNat)
            case atStart => exact ⟨0, Nat.zero_le _, rfl, hb, Lib.hid (fun t ht => by omega)⟩
            case round =>
              obtain ⟨j, hj, rfl, hb2, HJ⟩ := hrel
              clear c0 c1
              have c0 := (hb2.cell (p := ⟨w.heap.size, 0, none⟩) (by simp)).trans k0
              have c1 := (hb2.cell (p := ⟨w.heap.size, 1, none⟩) (by simp)).trans k1
              have hrow : ∀ W : World, Below (w.heap.size + 1) w1 W → Row W W.heap.size A (ints zs) := fun W hW => ((h.below hbw (Nat.le_refl _)).below hW (by omega)).mono (by have := hW.size; omega)
              have HR := Lib.hid hrow
              have hsz2 := hb2.size
              clear hrow
              by_cases hjk : j < k
              · cases he : bit (zs.getD k 0) j == bit (zs.getD j 0) k with
                | true =>
                  have N : Hid (okB (zs.length : Int) zs = false) := Lib.hid (by rw [HE.out]; exact ok_pair zs k j hlt hjk he)
                  have hjl : j < zs.length := by omega
                  rw [getD_lt _ _ _ hlt, getD_lt _ _ _ hjl] at he
                  go_wp2
                  go_region_held3 (fun w' => Below (w.heap.size + 1) w1 w' ∧ w'.cell? ⟨w.heap.size, 0, none⟩ = some (.int .i64 (zs.length : Int)) ∧ w'.cell? ⟨w.heap.size, 1, none⟩ = some (.slice A zs.length c))
                    (first | exact ⟨hb2, c0, c1⟩ | exact ⟨hb2.drew, c0, c1⟩)
                    ((go_at_call 80; refine (beats_any A c _ zs _ _ _ (HR.out _ (by first | exact hb2 | exact hb2.drew)) (by omega) (by omega) (by omega) (by omega) (HZ.out _).1 (Int.le_trans (HZ.out _).2 (by decide))).mono ?_; rintro e wq ⟨rfl, hbq⟩; have hb2 : Below (w.heap.size + 1) w1 wq := (by first | exact hb2.trans (hbq.mono (by have := hb2.size; omega)) | exact hb2.drew.trans (hbq.mono (by have := hb2.drew.size; omega))); have c0 := (hb2.cell (p := ⟨w.heap.size, 0, none⟩) (by simp)).trans k0; have c1 := (hb2.cell (p := ⟨w.heap.size, 1, none⟩) (by simp)).trans k1))
                  go_wp2
                  go_ret
                  exact ⟨ret_bool N.out.symm, hbw.trans (hb2.mono (by omega))⟩
                | false =>
                  have HJ2 : Hid (∀ t, t < j + 1 → (bit (zs.getD k 0) t != bit (zs.getD t 0) k) = true) := Lib.hid (fun t ht => by
                    by_cases e : t = j
                    · subst e; simpa [bne] using he
                    · exact HJ.out t (by omega))
                  have hjl : j < zs.length := by omega
                  rw [getD_lt _ _ _ hlt, getD_lt _ _ _ hjl] at he
                  go_wp2
                  go_region_held3 (fun w' => Below (w.heap.size + 1) w1 w' ∧ w'.cell? ⟨w.heap.size, 0, none⟩ = some (.int .i64 (zs.length : Int)) ∧ w'.cell? ⟨w.heap.size, 1, none⟩ = some (.slice A zs.length c))
                    (first | exact ⟨hb2, c0, c1⟩ | exact ⟨hb2.drew, c0, c1⟩)
                    ((go_at_call 80; refine (beats_any A c _ zs _ _ _ (HR.out _ (by first | exact hb2 | exact hb2.drew)) (by omega) (by omega) (by omega) (by omega) (HZ.out _).1 (Int.le_trans (HZ.out _).2 (by decide))).mono ?_; rintro e wq ⟨rfl, hbq⟩; have hb2 : Below (w.heap.size + 1) w1 wq := (by first | exact hb2.trans (hbq.mono (by have := hb2.size; omega)) | exact hb2.drew.trans (hbq.mono (by have := hb2.drew.size; omega))); have c0 := (hb2.cell (p := ⟨w.heap.size, 0, none⟩) (by simp)).trans k0; have c1 := (hb2.cell (p := ⟨w.heap.size, 1, none⟩) (by simp)).trans k1))
                  go_wp2
                  go_roundw
                  case rel => exact ⟨j + 1, by omega, by go_num, hb2, HJ2⟩
                  case measure => simp [intOf]; omega
              · obtain rfl : j = k := by omega
                cases hd : bit (zs.getD j 0) j with
                | true =>
                  have N : Hid (okB (zs.length : Int) zs = false) := Lib.hid (by rw [HE.out]; exact ok_self zs j hlt hd)
                  rw [getD_lt _ _ _ hlt] at hd
                  go_wp2_with (go_at_call 80; refine (beats_any A c _ zs _ _ _ (HR.out _ (by first | exact hb2 | exact hb2.drew)) (by omega) (by omega) (by omega) (by omega) (HZ.out _).1 (Int.le_trans (HZ.out _).2 (by decide))).mono ?_; rintro e wq ⟨rfl, hbq⟩; have hb2 : Below (w.heap.size + 1) w1 wq := (by first | exact hb2.trans (hbq.mono (by have := hb2.size; omega)) | exact hb2.drew.trans (hbq.mono (by have := hb2.drew.size; omega))); have c0 := (hb2.cell (p := ⟨w.heap.size, 0, none⟩) (by simp)).trans k0; have c1 := (hb2.cell (p := ⟨w.heap.size, 1, none⟩) (by simp)).trans k1)
                  go_ret
                  exact ⟨ret_bool N.out.symm, hbw.trans (hb2.mono (by omega))⟩
                | false =>
                  have HT2 : Hid (∀ t, t < j + 1 → okAt zs t = true) := Lib.hid (fun t ht => by
                    by_cases e : t = j
                    · subst e; exact ok_round zs t hd HJ.out
                    · exact HT.out t (by omega))
                  rw [getD_lt _ _ _ hlt] at hd
                  go_wp2_with (go_at_call 80; refine (beats_any A c _ zs _ _ _ (HR.out _ (by first | exact hb2 | exact hb2.drew)) (by omega) (by omega) (by omega) (by omega) (HZ.out _).1 (Int.le_trans (HZ.out _).2 (by decide))).mono ?_; rintro e wq ⟨rfl, hbq⟩; have hb2 : Below (w.heap.size + 1) w1 wq := (by first | exact hb2.trans (hbq.mono (by have := hb2.size; omega)) | exact hb2.drew.trans (hbq.mono (by have := hb2.drew.size; omega))); have c0 := (hb2.cell (p := ⟨w.heap.size, 0, none⟩) (by simp)).trans k0; have c1 := (hb2.cell (p := ⟨w.heap.size, 1, none⟩) (by simp)).trans k1)
                  go_roundw
                  case rel => exact ⟨j + 1, by omega, by go_num, hb2, HT2⟩
                  case measure => simp [intOf]; omega
          · obtain rfl : k = zs.length := by omega
            have E : Hid (okB (zs.length : Int) zs = true) := Lib.hid (by rw [HE.out, List.all_eq_true]; intro j hj; exact HT.out j (by rwa [List.mem_range] at hj))
            go_wp2
            go_ret
            exact ⟨ret_bool E.out.symm, hbw.trans (hb.mono (by omega))⟩
    · have E : okB s zs = false := by unfold okB; simp [hlen]
      have e0 : ((zs.length : Int) != s) = true := by simpa using hlen
      have N := Lib.hid E
      clear E hlen
      go_enter Try.func50, Try.ntmps50
      go_wp2
      go_quiet ((go_at_call 33; exact Calls.quiet_of_same ((within_yes _ _ _ _ (by omega) (by omega)).mono fun _ _ ⟨p, q⟩ => ⟨p, q.symm⟩)))
      go_wp2
      go_ret
      exact ⟨ret_bool N.out.symm, below_drewN (by go_grown) _⟩
  · have E : okB s zs = false := by unfold okB; by_cases e : 1 ≤ s <;> simp [e] <;> omega
    have N := Lib.hid E
    have g : s < 1 ∨ 8 < s := by omega
    clear E h8
    go_enter Try.func50, Try.ntmps50
    go_wp2
    go_quiet ((go_at_call 33; exact Calls.quiet_of_same ((within_no _ _ _ _ g).mono fun _ _ ⟨p, q⟩ => ⟨p, q.symm⟩)))
    go_wp2
    go_ret
    exact ⟨ret_bool N.out.symm, below_drewN (by go_grown) _⟩

/-- Two bits held one against the other. -/
theorem bits_test (x y b a : Nat) (hx : x < 9223372036854775808) (hy : y < 9223372036854775808) : (bits .and .i64 ((x : Int) / 2 ^ b) 1 == bits .and .i64 ((y : Int) / 2 ^ a) 1) = (x.testBit b == y.testBit a) := by
  rw [shr_nat, shr_nat, and_one _ (Nat.lt_of_le_of_lt (Nat.div_le_self _ _) hx), and_one _ (Nat.lt_of_le_of_lt (Nat.div_le_self _ _) hy), Nat.testBit_eq_decide_div_mod_eq, Nat.testBit_eq_decide_div_mod_eq]
  have h1 : x / 2 ^ b % 2 < 2 := Nat.mod_lt _ (by omega)
  have h2 : y / 2 ^ a % 2 < 2 := Nat.mod_lt _ (by omega)
  generalize x / 2 ^ b % 2 = u at *
  generalize y / 2 ^ a % 2 = v at *
  rw [Bool.eq_iff_iff, beq_iff_eq, beq_iff_eq, Bool.eq_iff_iff, decide_eq_true_eq, decide_eq_true_eq]
  omega
theorem ok_out (zs : List Int) (k : Nat) (hk : k < zs.length) (h : zs[k] < 0 ∨ 2 ^ zs.length - 1 < zs[k]) : okB (zs.length : Int) zs = false := by
  unfold okB
  rw [Int.toNat_natCast, allIn_no zs 0 _ k hk h]
  simp
theorem okB_no (s : Int) (zs : List Int) (h : (List.range zs.length).all (okAt zs) = false) : okB s zs = false := by
  unfold okB; rw [h, Bool.and_false]
def OkTo (zs : List Int) (k : Nat) : Prop := ∀ j, j < k → (0 ≤ zs.getD j 0 ∧ zs.getD j 0 ≤ 2 ^ zs.length - 1) ∧ okAt zs j = true
theorem okB_yes (zs : List Int) (h1 : 1 ≤ zs.length) (h8 : zs.length ≤ 8) (h : OkTo zs zs.length) : okB (zs.length : Int) zs = true := by
  unfold okB
  have a : allIn 0 (2 ^ zs.length - 1) zs = true := by
    unfold allIn
    rw [List.all_eq_true]
    intro z hz
    obtain ⟨i, hi, rfl⟩ := List.mem_iff_getElem.1 hz
    have := (h i hi).1
    rw [getD_lt _ _ _ hi] at this
    simpa using this
  have b : (List.range zs.length).all (okAt zs) = true := by
    rw [List.all_eq_true]; intro j hj; exact (h j (by rwa [List.mem_range] at hj)).2
  rw [Int.toNat_natCast, a, b]
  simp
  omega

end Go.Proofs.Ytaocjjocncoahaa
