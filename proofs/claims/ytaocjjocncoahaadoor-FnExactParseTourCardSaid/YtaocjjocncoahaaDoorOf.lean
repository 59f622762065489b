/- l02Of, walked: the tour of a number's bits. -/
import Derived.Test.YtaocjjocncoahaaDoorGame
namespace Go.Proofs.YtaocjjocncoahaaDoor
open Go.RowKit

theorem or_add8 (x k : Nat) (hx : x < 256) (hk : k < 8) (h : x.testBit k = false) : x ||| 2 ^ k = x + 2 ^ k := by
  have : ∀ x, x < 256 → ∀ k, k < 8 → x.testBit k = false → x ||| 2 ^ k = x + 2 ^ k := by decide +kernel
  exact this x hx k hk h
theorem done_free (a b : Nat) (hab : a < b) : done a b a b = false ∧ done a b b a = false := by
  constructor
  all_goals
    rw [Bool.eq_false_iff]
    unfold done
    simp only [Bool.and_eq_true, Bool.or_eq_true, decide_eq_true_eq, ne_eq]
    omega
theorem game_bit (cd q : Nat) (h : cd < 9223372036854775808) : (bits .and .i64 ((cd / 2 ^ q : Nat) : Int) 1 == 1) = cd.testBit q := by
  rw [← shr_nat]; exact bit_test cd q h
theorem code_first (n a : Nat) (cd : Nat) : cd / 2 ^ gpos n a (a + 1) = cd / 2 ^ off n a := by
  have : gpos n a (a + 1) = off n a := by unfold gpos; omega
  rw [this]
theorem code_next (n a b cd : Nat) (h : a < b) : cd / 2 ^ gpos n a b / 2 = cd / 2 ^ gpos n a (b + 1) := by
  have : gpos n a (b + 1) = gpos n a b + 1 := by unfold gpos; omega
  rw [this, Nat.div_div_eq_div_mul, Nat.pow_succ]
theorem code_last (n a cd : Nat) (h : a < n) : cd / 2 ^ gpos n a n = cd / 2 ^ off n (a + 1) := by
  have : gpos n a n = off n (a + 1) := by unfold gpos; rw [off]; omega
  rw [this]
theorem div_lt (cd q : Nat) (h : cd < 9223372036854775808) : cd / 2 ^ q < 9223372036854775808 := Nat.lt_of_le_of_lt (Nat.div_le_self _ _) h
set_option maxHeartbeats 1600000 in
theorem sOf_any (n cd : Nat) (w : World) (h1 : 1 ≤ n) (h8 : n ≤ 8) (hcd : cd < 9223372036854775808) :
    Calls Tryd.prog 21 #[.int .i64 (n : Int), .int .i64 (cd : Int)] w (NewTour w (n : Int) (casts (gameV n fun k => cd.testBit k))) := by
  have hmk := make_ints n (by omega)
  go_enter Tryd.func21, Tryd.ntmps21
  go_wp2
  clear hmk
  obtain ⟨w1, hw1⟩ : ∃ w1, w1 = ((w.alloc (.cells #[.int .i64 0, .slice none 0 0] 24)).alloc (.cells (madeCells #[.int .i64 0] n) 3)).alloc (.cells #[.int .i64 (n : Int), .slice (some ⟨w.heap.size + 1, 0, none⟩) n n] 24) := ⟨_, rfl⟩
  rw [← hw1]
  have r0 : w1.cell? ⟨w.heap.size, 0, none⟩ = some (.int .i64 0) := by rw [hw1]; go_simp
  have r1 : w1.cell? ⟨w.heap.size, 1, none⟩ = some (.slice none 0 0) := by rw [hw1]; go_simp
  have f0 : w1.frozen? ⟨w.heap.size, 0, none⟩ = false := by rw [hw1]; go_simp
  have f1 : w1.frozen? ⟨w.heap.size, 1, none⟩ = false := by rw [hw1]; go_simp
  have t0 : w1.cell? ⟨w.heap.size + 1 + 1, 0, none⟩ = some (.int .i64 (n : Int)) := by rw [hw1]; go_simp
  have t1 : w1.cell? ⟨w.heap.size + 1 + 1, 1, none⟩ = some (.slice (some ⟨w.heap.size + 1, 0, none⟩) n n) := by rw [hw1]; go_simp
  have hbw : Below w.heap.size w w1 := by rw [hw1]; go_grown
  have hsz : w.heap.size + 3 ≤ w1.heap.size := by rw [hw1]; simp
  have ho1 : Own w1 (w.heap.size + 1) (w.heap.size + 2) 3 (some ⟨w.heap.size + 1, 0, none⟩) n (ints (casts (gst n (fun k => cd.testBit k) 0 0))) := by
    rw [hw1, gst_zero, casts_zeros]
    have h := own_made (w.alloc (.cells #[.int .i64 0, .slice none 0 0] 24)) (w.heap.size + 1) n (by simp) (by omega)
    rw [World.size_alloc] at h
    exact h.alloc (by simp) _
  have HO1 := Lib.hid ho1
  clear hw1 ho1
  go_loopw [1, 6] (fun v i wr => ∃ a : Nat, a ≤ n ∧ i = .int .i64 (a : Int) ∧ v = .int .i64 ((cd / 2 ^ off n a : Nat) : Int) ∧ Own wr (w.heap.size + 1) (w.heap.size + 2) 3 (some ⟨w.heap.size + 1, 0, none⟩) n (ints (casts (gst n (fun k => cd.testBit k) a 0))) ∧ Only (w.heap.size + 1) (w.heap.size + 2) w1 wr) (fun _ i _ => n - (intOf i).toNat)
  case atStart => exact ⟨0, Nat.zero_le _, rfl, by rw [off, Nat.pow_zero, Nat.div_one], HO1.out, Only.refl _ _ _⟩
  case round =>
    clear HO1
    obtain ⟨a, ha, rfl, rfl, ho', hon⟩ := hrel
    have HO := Lib.hid ho'
    clear ho'
    by_cases hlt : a < n
    · go_wp2
      go_loopw [1, 7] (fun v i wr => ∃ b : Nat, a + 1 ≤ b ∧ b ≤ n ∧ i = .int .i64 (b : Int) ∧ v = .int .i64 ((cd / 2 ^ gpos n a b : Nat) : Int) ∧ Own wr (w.heap.size + 1) (w.heap.size + 2) 3 (some ⟨w.heap.size + 1, 0, none⟩) n (ints (casts (gst n (fun k => cd.testBit k) a b))) ∧ Only (w.heap.size + 1) (w.heap.size + 2) w1 wr) (fun _ i _ => n - (intOf i).toNat)
      case atStart => exact ⟨a + 1, by omega, by omega, by go_num, by rw [code_first], by rw [gst_low n _ a (a + 1) (Nat.le_refl _)]; exact HO.out, hon⟩
      case round =>
      clear HO
      obtain ⟨b, hab, hbm, rfl, rfl, ho', hon2⟩ := hrel
      have i0 := (hon2.cell (p := ⟨w.heap.size + 1 + 1, 0, none⟩) (by simp; omega) (by simp)).trans t0
      have i1 := (hon2.cell (p := ⟨w.heap.size + 1 + 1, 1, none⟩) (by simp; omega) (by simp)).trans t1
      have hszr := hon2.size
      by_cases hbn : b < n
      · have hcn := Lib.hid (code_next n a b cd (by omega))
        have hcl := div_lt cd (gpos n a b) hcd
        have T := game_bit cd (gpos n a b) hcd
        cases hg : cd.testBit (gpos n a b) with
        | true =>
          rw [hg] at T
          have hset := gst_win n (fun k => cd.testBit k) a b (by omega) hbn hg
          obtain ⟨g', hg', _, _, hcell, hfz⟩ := ho'.nat (k := a) (by rw [gst_length]; omega)
          simp only [Option.some.injEq, Addr.mk.injEq, and_true] at hg'
          subst hg'
          rw [gst_get] at hcell
          have hx := Nat.lt_of_lt_of_le (ofB_lt n fun j => done a b a j && gameF n (fun k => cd.testBit k) a j) (pow_le8 n h8)
          have hfree : (ofB n fun j => done a b a j && gameF n (fun k => cd.testBit k) a j).testBit b = false := by rw [testBit_ofB, (done_free a b (by omega)).1]; simp
          have ho3 := ho'.set a (.int .i64 (((ofB n fun j => done a b a j && gameF n (fun k => cd.testBit k) a j) ||| 2 ^ b : Nat) : Int))
          rw [ints_casts_set, hset] at ho3
          generalize (ofB n fun j => done a b a j && gameF n (fun k => cd.testBit k) a j) = x at *
          have E1 : (x : Int) + 2 ^ b = ((x ||| 2 ^ b : Nat) : Int) := by rw [or_add8 _ _ hx (by omega) hfree, pow_cast]; omega
          have hv : x ||| 2 ^ b < 256 := Nat.or_lt_two_pow (n := 8) hx (Nat.pow_lt_pow_right (by omega) (by omega))
          obtain ⟨q1, q2⟩ := pow_small b (by omega)
          have hw : IntKind.i64.wrap (2 ^ b) = 2 ^ b := by rw [IntKind.wrap_i64]; omega
          have HO3 := Lib.hid ho3
          generalize (x ||| 2 ^ b) = y at *
          have hwy : IntKind.i64.wrap (y : Int) = (y : Int) := by rw [IntKind.wrap_i64]; omega
          generalize cd / 2 ^ gpos n a b = q at *
          obtain ⟨r, hr⟩ : ∃ r, r = q / 2 := ⟨_, rfl⟩
          have hdiv : (q : Int) / 2 = (r : Int) := by omega
          have HR := Lib.hid hr
          clear hr
          clear ho' ho3 hset hg hfree
          go_wp2
          go_region
          go_wp2
          go_roundw
          case rel => exact ⟨b + 1, by omega, by omega, by go_num, by rw [← hcn.out, ← HR.out], HO3.out, (hon2.setCell (p := ⟨w.heap.size + 1, a, none⟩) (by simp) (by simp) _).drew⟩
          case measure => simp [intOf]; omega
        | false =>
          rw [hg] at T
          have hset := gst_lose n (fun k => cd.testBit k) a b (by omega) hbn hg
          obtain ⟨g', hg', _, _, hcell, hfz⟩ := ho'.nat (k := b) (by rw [gst_length]; omega)
          simp only [Option.some.injEq, Addr.mk.injEq, and_true] at hg'
          subst hg'
          rw [gst_get] at hcell
          have hx := Nat.lt_of_lt_of_le (ofB_lt n fun j => done a b b j && gameF n (fun k => cd.testBit k) b j) (pow_le8 n h8)
          have hfree : (ofB n fun j => done a b b j && gameF n (fun k => cd.testBit k) b j).testBit a = false := by rw [testBit_ofB, (done_free a b (by omega)).2]; simp
          have ho3 := ho'.set b (.int .i64 (((ofB n fun j => done a b b j && gameF n (fun k => cd.testBit k) b j) ||| 2 ^ a : Nat) : Int))
          rw [ints_casts_set, hset] at ho3
          generalize (ofB n fun j => done a b b j && gameF n (fun k => cd.testBit k) b j) = x at *
          have E1 : (x : Int) + 2 ^ a = ((x ||| 2 ^ a : Nat) : Int) := by rw [or_add8 _ _ hx (by omega) hfree, pow_cast]; omega
          have hv : x ||| 2 ^ a < 256 := Nat.or_lt_two_pow (n := 8) hx (Nat.pow_lt_pow_right (by omega) (by omega))
          obtain ⟨q1, q2⟩ := pow_small a (by omega)
          have hw : IntKind.i64.wrap (2 ^ a) = 2 ^ a := by rw [IntKind.wrap_i64]; omega
          have HO3 := Lib.hid ho3
          generalize (x ||| 2 ^ a) = y at *
          have hwy : IntKind.i64.wrap (y : Int) = (y : Int) := by rw [IntKind.wrap_i64]; omega
          generalize cd / 2 ^ gpos n a b = q at *
          obtain ⟨r, hr⟩ : ∃ r, r = q / 2 := ⟨_, rfl⟩
          have hdiv : (q : Int) / 2 = (r : Int) := by omega
          have HR := Lib.hid hr
          clear hr
          clear ho' ho3 hset hg hfree
          go_wp2
          go_region
          go_wp2
          go_roundw
          case rel => exact ⟨b + 1, by omega, by omega, by go_num, by rw [← hcn.out, ← HR.out], HO3.out, (hon2.setCell (p := ⟨w.heap.size + 1, b, none⟩) (by simp) (by simp) _).drew⟩
          case measure => simp [intOf]; omega
      · obtain rfl : b = n := by omega
        rw [gst_next] at ho'
        have HO2 := Lib.hid ho'
        have hgn := Lib.hid (code_last b a cd hlt)
        clear ho'
        go_wp2
        go_roundw
        case rel => exact ⟨a + 1, by omega, by go_num, by rw [hgn.out], HO2.out, hon2⟩
        case measure => simp [intOf]; omega
    · obtain rfl : a = n := by omega
      have ho2 := HO.out
      rw [gst_end] at ho2
      have HO2 := Lib.hid ho2
      have s0 := (hon.cell (p := ⟨w.heap.size, 0, none⟩) (by simp; omega) (by simp)).trans r0
      have s1 := (hon.cell (p := ⟨w.heap.size, 1, none⟩) (by simp; omega) (by simp)).trans r1
      have u0 := (hon.frozen (p := ⟨w.heap.size, 0, none⟩) (by simp; omega) (by simp)).trans f0
      have u1 := (hon.frozen (p := ⟨w.heap.size, 1, none⟩) (by simp; omega) (by simp)).trans f1
      have i0 := (hon.cell (p := ⟨w.heap.size + 1 + 1, 0, none⟩) (by simp; omega) (by simp)).trans t0
      have i1 := (hon.cell (p := ⟨w.heap.size + 1 + 1, 1, none⟩) (by simp; omega) (by simp)).trans t1
      clear ho2 HO r0 r1 f0 f1 t0 t1
      go_wp2
      refine bodyPost_ret (v := .agg #[.int .i64 (a : Int), .slice (some ⟨w.heap.size + 1, 0, none⟩) a a]) (by simp [results, Tryd.results21, go_sem, s0, s1]) rfl ?_
      refine ⟨some ⟨w.heap.size + 1, 0, none⟩, a, ?_, ?_, ?_⟩
      · rw [casts_length]; unfold gameV; rw [rowsOf_length]
      · refine Own.mono (Own.setCell (Own.setCell HO2.out ?_ _) ?_ _) (by omega) (by have := hon.size; simp; omega)
        all_goals (left; show _ < _; simp)
      · refine ((hbw.trans (hon.below (by omega) (by omega))).setCell ?_ _).setCell ?_ _
        all_goals (show _ ≤ _; simp)
end Go.Proofs.YtaocjjocncoahaaDoor
