/- One result reversed: flipped, l02Flip; a triangle reversed: turned, l04Reverse, ReverseTriangle, walked. -/
import Derived.Test.YtaocjjocncoahaaMg5
import Derived.Test.YtaocjjocncoahaaTourOf
import Derived.Test.YtaocjjocncoahaaMg3
import Derived.Test.YtaocjjocncoahaaScore
import Derived.Test.YtaocjjocncoahaaTriang
import Derived.Deep.RegionLaw
namespace Go.Proofs.Ytaocjjocncoahaa
open Go.RowKit

/-- The rows of wins when the result of two players is reversed. -/
def flip1 (W : List Nat) (a b : Nat) : List Nat := W.set a (W.getD a 0 ^^^ 2 ^ b)
def flipW (W : List Nat) (a b : Nat) : List Nat := flip1 (flip1 W a b) b a
theorem flip1_length (W : List Nat) (a b : Nat) : (flip1 W a b).length = W.length := by simp [flip1]
theorem flipW_length (W : List Nat) (a b : Nat) : (flipW W a b).length = W.length := by simp [flipW, flip1]
theorem flip1_getD (W : List Nat) (a b i : Nat) (ha : a < W.length) : (flip1 W a b).getD i 0 = if i = a then W.getD a 0 ^^^ 2 ^ b else W.getD i 0 := by
  unfold flip1
  rw [List.getD, List.getD, List.getElem?_set]
  by_cases e : a = i
  · subst e; simp [ha]
  · have e' : ¬ i = a := fun h => e h.symm
    simp [e, e']
theorem bt_flip1 (W : List Nat) (a b i j : Nat) (ha : a < W.length) : bt (flip1 W a b) i j = (bt W i j ^^ (decide (i = a) && decide (j = b))) := by
  unfold bt
  rw [flip1_getD W a b i ha]
  split
  · rename_i e
    subst e
    rw [Nat.testBit_xor, Nat.testBit_two_pow]
    by_cases e : b = j
    · subst e; simp
    · have e' : ¬ j = b := fun h => e h.symm
      simp [e, e']
  · rename_i e
    simp [e]
theorem bt_flipW (W : List Nat) (a b i j : Nat) (ha : a < W.length) (hb : b < W.length) : bt (flipW W a b) i j = (bt W i j ^^ ((decide (i = a) && decide (j = b)) ^^ (decide (i = b) && decide (j = a)))) := by
  unfold flipW
  rw [bt_flip1 _ b a i j (by rw [flip1_length]; exact hb), bt_flip1 W a b i j ha, Bool.xor_assoc]
theorem flip1_lt (W : List Nat) (n a b : Nat) (h : ∀ i, W.getD i 0 < 2 ^ n) (ha : a < W.length) (hb : b < n) (i : Nat) : (flip1 W a b).getD i 0 < 2 ^ n := by
  rw [flip1_getD W a b i ha]
  split
  · exact Nat.xor_lt_two_pow (h a) (Nat.pow_lt_pow_right (by omega) hb)
  · exact h i
theorem flipW_ok (W : List Nat) (hT : IsT W) (a b : Nat) (ha : a < W.length) (hb : b < W.length) (hab : a ≠ b) : IsT (flipW W a b) := by
  refine ⟨by rw [flipW_length]; exact hT.h1, by rw [flipW_length]; exact hT.h8, fun i => ?_, fun i => ?_, fun i j hi hj hij => ?_⟩
  · rw [flipW_length]
    exact flip1_lt _ _ _ _ (fun i => flip1_lt W _ a b hT.lt ha hb i) (by rw [flip1_length]; exact hb) ha i
  · rw [bt_flipW W a b i i ha hb, hT.self]
    by_cases e : i = a
    · subst e; simp [hab]
    · simp [e]
  · rw [flipW_length] at hi hj
    rw [bt_flipW W a b i j ha hb, bt_flipW W a b j i ha hb, hT.pair i j hi hj hij]
    cases bt W j i <;> by_cases e1 : i = a <;> by_cases e2 : j = b <;> by_cases e3 : i = b <;> by_cases e4 : j = a <;> simp_all
theorem xor_pow' (k y : Nat) (h : k < 8) (hy : y < 256) : bits .xor .i64 (y : Int) ((2 : Int) ^ k) = ((y ^^^ 2 ^ k : Nat) : Int) := by
  have := pow_small k h
  rw [pow_cast] at *
  rw [xor_nat _ _ (by omega) (by omega)]
theorem ints_casts_set2 (W : List Nat) (a y : Nat) : (ints (casts W)).set a (.int .i64 (y : Nat)) = ints (casts (W.set a y)) := ints_casts_set W a y

/-- A box of two cells that was laid just ahead of a call. -/
theorem boxed_over {w wq : World} {v0 v1 : Value} {t : TypeId} (hq : Below (w.alloc (.cells #[v0, v1] t)).heap.size (w.alloc (.cells #[v0, v1] t)) wq) :
    wq.cell? ⟨w.heap.size, 0, none⟩ = some v0 ∧ wq.cell? ⟨w.heap.size, 1, none⟩ = some v1 ∧ wq.frozen? ⟨w.heap.size, 0, none⟩ = false ∧ wq.frozen? ⟨w.heap.size, 1, none⟩ = false :=
  ⟨(hq.cell (p := ⟨w.heap.size, 0, none⟩) (by simp)).trans (by go_simp), (hq.cell (p := ⟨w.heap.size, 1, none⟩) (by simp)).trans (by go_simp), (hq.frozen (p := ⟨w.heap.size, 0, none⟩) (by simp)).trans (by go_simp), (hq.frozen (p := ⟨w.heap.size, 1, none⟩) (by simp)).trans (by go_simp)⟩
theorem cloneW_any (A : Option Addr) (c : Nat) (W : List Nat) (w : World) (h : Row w w.heap.size A (ints (casts W))) (h0 : 1 ≤ W.length) (hl : W.length ≤ 8) :
    Calls Try.prog 40 #[.slice A W.length c] w (NewInts w 3 (casts W)) := by
  have := clone_any A c (casts W) w h (by rw [casts_length]; omega) (by rw [casts_length]; omega)
  rwa [casts_length] at this
set_option maxHeartbeats 1600000 in
theorem flipped_any (A : Option Addr) (c : Nat) (W : List Nat) (a b : Nat) (w : World) (hT : IsT W) (h : Row w w.heap.size A (ints (casts W))) (ha : a < W.length) (hb : b < W.length) :
    Calls Try.prog 65 #[.agg #[.int .i64 (W.length : Int), .slice A W.length c], .int .i64 (a : Int), .int .i64 (b : Int)] w (NewTour w (W.length : Int) (casts (flipW W a b))) := by
  have g1 := hT.h1
  have g8 := hT.h8
  go_enter Try.func65, Try.ntmps65
  go_wp2
  obtain ⟨w1, hw1⟩ : ∃ w1, w1 = (w.alloc (.cells #[.int .i64 (W.length : Int), .slice A W.length c] 26)).alloc (.cells #[.int .i64 0, .slice none 0 0] 26) := ⟨_, rfl⟩
  rw [← hw1]
  have k0 : w1.cell? ⟨w.heap.size, 0, none⟩ = some (.int .i64 (W.length : Int)) := by rw [hw1]; go_simp
  have k1 : w1.cell? ⟨w.heap.size, 1, none⟩ = some (.slice A W.length c) := by rw [hw1]; go_simp
  have j0 : w1.cell? ⟨w.heap.size + 1, 0, none⟩ = some (.int .i64 0) := by rw [hw1]; go_simp
  have j1 : w1.cell? ⟨w.heap.size + 1, 1, none⟩ = some (.slice none 0 0) := by rw [hw1]; go_simp
  have f0 : w1.frozen? ⟨w.heap.size + 1, 0, none⟩ = false := by rw [hw1]; go_simp
  have f1 : w1.frozen? ⟨w.heap.size + 1, 1, none⟩ = false := by rw [hw1]; go_simp
  have hbw : Below w.heap.size w w1 := by rw [hw1]; go_grown
  have hsz : w.heap.size + 2 ≤ w1.heap.size := by rw [hw1]; simp
  have h := h.rowAt hbw (Nat.le_refl _)
  have HK := Lib.hid (fun W' (hW : Below w1.heap.size w1 W') => (⟨hW, held_at k0 k1 hW⟩ : Below w1.heap.size w1 W' ∧ W'.cell? ⟨w.heap.size, 0, none⟩ = some (.int .i64 (W.length : Int)) ∧ W'.cell? ⟨w.heap.size, 1, none⟩ = some (.slice A W.length c)))
  have hbb : Below w1.heap.size w1 w1 := Below.refl _ _
  clear hw1
  go_region_held3 (fun w' => Below w1.heap.size w1 w' ∧ w'.cell? ⟨w.heap.size, 0, none⟩ = some (.int .i64 (W.length : Int)) ∧ w'.cell? ⟨w.heap.size, 1, none⟩ = some (.slice A W.length c))
    ((refine HK.out _ ?_; go_grown))
    ((go_at_call 40; refine (cloneW_any A c W _ (h.rowAt (by go_grown) (Nat.le_refl _)) (by omega) (by omega)).mono ?_; rintro e wq ⟨G, d, rfl, ho, hq⟩; have hbb : Below w1.heap.size w1 wq := Below.trans (by go_grown) (hq.mono (by simp)); have hzq := hbb.size; obtain ⟨hc1, hf1⟩ := bcell hq))
  · obtain ⟨wo, hwo⟩ : ∃ wo, wo = wq.alloc (.cells #[.int .i64 (W.length : Int), .slice G (casts W).length d] 26) := ⟨_, rfl⟩
    have o0 : wo.cell? ⟨wq.heap.size, 0, none⟩ = some (.int .i64 (W.length : Int)) := by rw [hwo]; go_simp
    have o1 : wo.cell? ⟨wq.heap.size, 1, none⟩ = some (.slice G W.length d) := by rw [hwo]; simp only [casts_length]; go_simp
    have hO : Own wo (w1.heap.size) (wq.heap.size) 3 G d (ints (casts W)) := by rw [hwo]; exact (ho.alloc (Nat.le_refl _) _)
    have hbo : Below w1.heap.size w1 wo := by rw [hwo]; exact (hbb.alloc hzq _)
    have hne : ∀ g, w1.heap.size ≤ g → g < wq.heap.size → g ≠ wq.heap.size := fun g h1 h2 => by omega
    have hob : w1.heap.size ≤ wq.heap.size := by omega
    have hlo : w1.heap.size ≤ w1.heap.size := by first | omega | (simp; done) | (simp; omega)
    have hhi : wq.heap.size ≤ wo.heap.size := by rw [hwo]; simp
    rw [← hwo]
    obtain ⟨g, rfl, hg1, hg2, hca, hfa⟩ := hO.nat ha
    have hgo := hne g hg1 hg2
    have xa : W[a] < 256 := hT.lt256' ha
    have E1 := xor_pow' b W[a] (by omega) xa
    obtain ⟨q1, q2⟩ := pow_small b (by omega)
    have hw1 : IntKind.i64.wrap (2 ^ b) = 2 ^ b := by rw [IntKind.wrap_i64]; omega
    have hO2 := hO.set a (.int .i64 ((W[a] ^^^ 2 ^ b : Nat) : Int))
    rw [ints_casts_set, show W.set a (W[a] ^^^ 2 ^ b) = flip1 W a b by unfold flip1; rw [getD_lt _ _ _ ha]] at hO2
    have HO2 := Lib.hid hO2
    have t0 : (0 : Int) ≤ (a : Int) := by omega
    have t1 : (a : Int) < (W.length : Int) := by omega
    have t2 : (0 : Int) ≤ (b : Int) := by omega
    have t3 : (b : Int) < (W.length : Int) := by omega
    clear hO hO2 hwo hq hc1 hf1 ho
    generalize W[a] ^^^ 2 ^ b = ya at *
    go_wp2
    go_region
    obtain ⟨w5, hw5⟩ : ∃ w5, w5 = (wo.setCell ⟨g, a, none⟩ (.int .i64 (ya : Int))).drew := ⟨_, rfl⟩
    rw [← hw5]
    have HO3 : Hid (Own w5 (w1.heap.size) (wq.heap.size) 3 (some ⟨g, 0, none⟩) d (ints (casts (flip1 W a b)))) := Lib.hid (by rw [hw5]; exact HO2.out.drew)
    have o0' : w5.cell? ⟨wq.heap.size, 0, none⟩ = some (.int .i64 (W.length : Int)) := by rw [hw5]; exact (World.cell?_setCell_other wo _ _ _ (fun e => by simp only [Addr.mk.injEq] at e; omega)).trans o0
    have o1' : w5.cell? ⟨wq.heap.size, 1, none⟩ = some (.slice (some ⟨g, 0, none⟩) W.length d) := by rw [hw5]; exact (World.cell?_setCell_other wo _ _ _ (fun e => by simp only [Addr.mk.injEq] at e; omega)).trans o1
    have hb5 : Below w1.heap.size w1 w5 := by rw [hw5]; exact (hbo.setCell (p := ⟨g, a, none⟩) (by show _ ≤ g; omega) _).drew
    have hz5 : w5.heap.size = wo.heap.size := by rw [hw5]; simp
    clear hw5 o0 o1 HO2 hca hfa E1 hw1 q1 q2
    have hlb : b < (flip1 W a b).length := by rw [flip1_length]; exact hb
    obtain ⟨g', eg, _, _, hcb, hfb⟩ := HO3.out.nat hlb
    simp only [Option.some.injEq, Addr.mk.injEq, and_true] at eg
    subst eg
    have xb : (flip1 W a b)[b] < 256 := by
      have := flip1_lt W W.length a b hT.lt ha hb b
      rw [getD_lt _ _ _ hlb] at this
      exact Nat.lt_of_lt_of_le this (pow_le8 _ g8)
    have E2 := xor_pow' a (flip1 W a b)[b] (by omega) xb
    obtain ⟨q1, q2⟩ := pow_small a (by omega)
    have hw2 : IntKind.i64.wrap (2 ^ a) = 2 ^ a := by rw [IntKind.wrap_i64]; omega
    have hO4 := HO3.out.set b (.int .i64 (((flip1 W a b)[b] ^^^ 2 ^ a : Nat) : Int))
    rw [ints_casts_set, show (flip1 W a b).set b ((flip1 W a b)[b] ^^^ 2 ^ a) = flipW W a b by unfold flipW; rw [show flip1 (flip1 W a b) b a = (flip1 W a b).set b ((flip1 W a b).getD b 0 ^^^ 2 ^ a) from rfl, getD_lt _ _ _ hlb]] at hO4
    have HO4 := Lib.hid hO4
    clear hO4 HO3
    generalize (flip1 W a b)[b] ^^^ 2 ^ a = yb at *
    generalize (flip1 W a b)[b] = zb at *
    go_wp2
    go_region
    obtain ⟨w6, hw6⟩ : ∃ w6, w6 = (w5.setCell ⟨g, b, none⟩ (.int .i64 (yb : Int))).drew := ⟨_, rfl⟩
    rw [← hw6]
    have HO5 : Hid (Own w6 (w1.heap.size) (wq.heap.size) 3 (some ⟨g, 0, none⟩) d (ints (casts (flipW W a b)))) := Lib.hid (by rw [hw6]; exact HO4.out.drew)
    have p0 : w6.cell? ⟨wq.heap.size, 0, none⟩ = some (.int .i64 (W.length : Int)) := by rw [hw6]; exact (World.cell?_setCell_other w5 _ _ _ (fun e => by simp only [Addr.mk.injEq] at e; omega)).trans o0'
    have p1 : w6.cell? ⟨wq.heap.size, 1, none⟩ = some (.slice (some ⟨g, 0, none⟩) W.length d) := by rw [hw6]; exact (World.cell?_setCell_other w5 _ _ _ (fun e => by simp only [Addr.mk.injEq] at e; omega)).trans o1'
    have hb6 : Below w1.heap.size w1 w6 := by rw [hw6]; exact (hb5.setCell (p := ⟨g, b, none⟩) (by show _ ≤ g; omega) _).drew
    have hz6 : w6.heap.size = w5.heap.size := by rw [hw6]; simp
    clear hw6 o0' o1' HO4 hcb hfb E2 hw2
    obtain ⟨⟨s0, s1⟩, ⟨u0, u1⟩⟩ := res_keep j0 j1 f0 f1 hb6
    clear j0 j1 f0 f1
    go_wp2
    refine bodyPost_ret (v := .agg #[.int .i64 (W.length : Int), .slice (some ⟨g, 0, none⟩) W.length d]) (by simp [results, Try.results65, go_sem, s0, s1]) rfl ⟨some ⟨g, 0, none⟩, d, ?_, ?_, ?_⟩
    · rw [casts_length, flipW_length]
    · refine Own.mono (Own.setCell (Own.setCell HO5.out ?_ _) ?_ _) (Nat.le_trans hbw.size hlo) (by simp; omega)
      all_goals (left; show w.heap.size + 1 < w1.heap.size; omega)
    · refine ((below_trans hbw hb6).setCell ?_ _).setCell ?_ _
      all_goals (show _ ≤ _; simp)
  · obtain ⟨wo, hwo⟩ : ∃ wo, wo = (wq.setCell ⟨w1.heap.size, 0, none⟩ (.int .i64 (W.length : Int))).setCell ⟨w1.heap.size, 1, none⟩ (.slice G (casts W).length d) := ⟨_, rfl⟩
    have o0 : wo.cell? ⟨w1.heap.size, 0, none⟩ = some (.int .i64 (W.length : Int)) := by rw [hwo]; go_simp
    have o1 : wo.cell? ⟨w1.heap.size, 1, none⟩ = some (.slice G W.length d) := by rw [hwo]; simp only [casts_length]; go_simp
    have hO : Own wo (w1.heap.size + 1) (wq.heap.size) 3 G d (ints (casts W)) := by rw [hwo]; exact ((Own.setCell (Own.setCell (ho.mono (by simp) (Nat.le_refl _)) (.inl (by show w1.heap.size < _; omega)) _) (.inl (by show w1.heap.size < _; omega)) _))
    have hbo : Below w1.heap.size w1 wo := by rw [hwo]; exact ((hbb.setCell (p := ⟨w1.heap.size, 0, none⟩) (Nat.le_refl _) _).setCell (p := ⟨w1.heap.size, 1, none⟩) (Nat.le_refl _) _)
    have hne : ∀ g, w1.heap.size + 1 ≤ g → g < wq.heap.size → g ≠ w1.heap.size := fun g h1 h2 => by omega
    have hob : w1.heap.size ≤ w1.heap.size := by omega
    have hlo : w1.heap.size ≤ w1.heap.size + 1 := by first | omega | (simp; done) | (simp; omega)
    have hhi : wq.heap.size ≤ wo.heap.size := by rw [hwo]; simp
    rw [← hwo]
    obtain ⟨g, rfl, hg1, hg2, hca, hfa⟩ := hO.nat ha
    have hgo := hne g hg1 hg2
    have xa : W[a] < 256 := hT.lt256' ha
    have E1 := xor_pow' b W[a] (by omega) xa
    obtain ⟨q1, q2⟩ := pow_small b (by omega)
    have hw1 : IntKind.i64.wrap (2 ^ b) = 2 ^ b := by rw [IntKind.wrap_i64]; omega
    have hO2 := hO.set a (.int .i64 ((W[a] ^^^ 2 ^ b : Nat) : Int))
    rw [ints_casts_set, show W.set a (W[a] ^^^ 2 ^ b) = flip1 W a b by unfold flip1; rw [getD_lt _ _ _ ha]] at hO2
    have HO2 := Lib.hid hO2
    have t0 : (0 : Int) ≤ (a : Int) := by omega
    have t1 : (a : Int) < (W.length : Int) := by omega
    have t2 : (0 : Int) ≤ (b : Int) := by omega
    have t3 : (b : Int) < (W.length : Int) := by omega
    clear hO hO2 hwo hq hc1 hf1 ho
    generalize W[a] ^^^ 2 ^ b = ya at *
    go_wp2
    go_region
    obtain ⟨w5, hw5⟩ : ∃ w5, w5 = (wo.setCell ⟨g, a, none⟩ (.int .i64 (ya : Int))).drew := ⟨_, rfl⟩
    rw [← hw5]
    have HO3 : Hid (Own w5 (w1.heap.size + 1) (wq.heap.size) 3 (some ⟨g, 0, none⟩) d (ints (casts (flip1 W a b)))) := Lib.hid (by rw [hw5]; exact HO2.out.drew)
    have o0' : w5.cell? ⟨w1.heap.size, 0, none⟩ = some (.int .i64 (W.length : Int)) := by rw [hw5]; exact (World.cell?_setCell_other wo _ _ _ (fun e => by simp only [Addr.mk.injEq] at e; omega)).trans o0
    have o1' : w5.cell? ⟨w1.heap.size, 1, none⟩ = some (.slice (some ⟨g, 0, none⟩) W.length d) := by rw [hw5]; exact (World.cell?_setCell_other wo _ _ _ (fun e => by simp only [Addr.mk.injEq] at e; omega)).trans o1
    have hb5 : Below w1.heap.size w1 w5 := by rw [hw5]; exact (hbo.setCell (p := ⟨g, a, none⟩) (by show _ ≤ g; omega) _).drew
    have hz5 : w5.heap.size = wo.heap.size := by rw [hw5]; simp
    clear hw5 o0 o1 HO2 hca hfa E1 hw1 q1 q2
    have hlb : b < (flip1 W a b).length := by rw [flip1_length]; exact hb
    obtain ⟨g', eg, _, _, hcb, hfb⟩ := HO3.out.nat hlb
    simp only [Option.some.injEq, Addr.mk.injEq, and_true] at eg
    subst eg
    have xb : (flip1 W a b)[b] < 256 := by
      have := flip1_lt W W.length a b hT.lt ha hb b
      rw [getD_lt _ _ _ hlb] at this
      exact Nat.lt_of_lt_of_le this (pow_le8 _ g8)
    have E2 := xor_pow' a (flip1 W a b)[b] (by omega) xb
    obtain ⟨q1, q2⟩ := pow_small a (by omega)
    have hw2 : IntKind.i64.wrap (2 ^ a) = 2 ^ a := by rw [IntKind.wrap_i64]; omega
    have hO4 := HO3.out.set b (.int .i64 (((flip1 W a b)[b] ^^^ 2 ^ a : Nat) : Int))
    rw [ints_casts_set, show (flip1 W a b).set b ((flip1 W a b)[b] ^^^ 2 ^ a) = flipW W a b by unfold flipW; rw [show flip1 (flip1 W a b) b a = (flip1 W a b).set b ((flip1 W a b).getD b 0 ^^^ 2 ^ a) from rfl, getD_lt _ _ _ hlb]] at hO4
    have HO4 := Lib.hid hO4
    clear hO4 HO3
    generalize (flip1 W a b)[b] ^^^ 2 ^ a = yb at *
    generalize (flip1 W a b)[b] = zb at *
    go_wp2
    go_region
    obtain ⟨w6, hw6⟩ : ∃ w6, w6 = (w5.setCell ⟨g, b, none⟩ (.int .i64 (yb : Int))).drew := ⟨_, rfl⟩
    rw [← hw6]
    have HO5 : Hid (Own w6 (w1.heap.size + 1) (wq.heap.size) 3 (some ⟨g, 0, none⟩) d (ints (casts (flipW W a b)))) := Lib.hid (by rw [hw6]; exact HO4.out.drew)
    have p0 : w6.cell? ⟨w1.heap.size, 0, none⟩ = some (.int .i64 (W.length : Int)) := by rw [hw6]; exact (World.cell?_setCell_other w5 _ _ _ (fun e => by simp only [Addr.mk.injEq] at e; omega)).trans o0'
    have p1 : w6.cell? ⟨w1.heap.size, 1, none⟩ = some (.slice (some ⟨g, 0, none⟩) W.length d) := by rw [hw6]; exact (World.cell?_setCell_other w5 _ _ _ (fun e => by simp only [Addr.mk.injEq] at e; omega)).trans o1'
    have hb6 : Below w1.heap.size w1 w6 := by rw [hw6]; exact (hb5.setCell (p := ⟨g, b, none⟩) (by show _ ≤ g; omega) _).drew
    have hz6 : w6.heap.size = w5.heap.size := by rw [hw6]; simp
    clear hw6 o0' o1' HO4 hcb hfb E2 hw2
    obtain ⟨⟨s0, s1⟩, ⟨u0, u1⟩⟩ := res_keep j0 j1 f0 f1 hb6
    clear j0 j1 f0 f1
    go_wp2
    refine bodyPost_ret (v := .agg #[.int .i64 (W.length : Int), .slice (some ⟨g, 0, none⟩) W.length d]) (by simp [results, Try.results65, go_sem, s0, s1]) rfl ⟨some ⟨g, 0, none⟩, d, ?_, ?_, ?_⟩
    · rw [casts_length, flipW_length]
    · refine Own.mono (Own.setCell (Own.setCell HO5.out ?_ _) ?_ _) (Nat.le_trans hbw.size hlo) (by simp; omega)
      all_goals (left; show w.heap.size + 1 < w1.heap.size + 1; omega)
    · refine ((below_trans hbw hb6).setCell ?_ _).setCell ?_ _
      all_goals (show _ ≤ _; simp)
theorem own_ne {w : World} {lo hi c g q : Nat} {t t' : TypeId} {vs : List Value} {cs : Array Value} {fr : Nat × Nat} (h : Own w lo hi t (some ⟨g, 0, none⟩) c vs) (hb : w.heap[q]? = some (.cells cs t' fr)) (ht : t ≠ t') : g ≠ q := by
  rcases h with ⟨e, _⟩ | ⟨g', cur, e, _, _, hh, _⟩
  · cases e
  · simp only [Option.some.injEq, Addr.mk.injEq, and_true] at e
    subst e
    intro e
    subst e
    rw [hb] at hh
    simp only [Option.some.injEq, Obj.cells.injEq] at hh
    exact ht hh.2.1.symm
theorem own_setCell_ne {w : World} {lo hi c : Nat} {t : TypeId} {A : Option Addr} {vs : List Value} {p : Addr} {u : Value} (h : Own w lo hi t A c vs) (hne : ∀ g, A = some ⟨g, 0, none⟩ → g ≠ p.block) : Own (w.setCell p u) lo hi t A c vs := by
  rcases h with h | ⟨g, cur, e, a, b, hh, r⟩
  · exact .inl h
  · exact .inr ⟨g, cur, e, a, b, (Below.heap_setCell w p u g (hne g e)).trans hh, r⟩
set_option maxHeartbeats 1600000 in
theorem l02Flip_any (A : Option Addr) (c : Nat) (W : List Nat) (a b : Nat) (w : World) (hT : IsT W) (h : Row w w.heap.size A (ints (casts W))) (ha : a < W.length) (hb : b < W.length) :
    Calls Try.prog 78 #[.agg #[.int .i64 (W.length : Int), .slice A W.length c], .int .i64 (a : Int), .int .i64 (b : Int)] w (NewTour w (W.length : Int) (casts (flipW W a b))) := by
  have g1 := hT.h1
  have g8 := hT.h8
  go_enter Try.func78, Try.ntmps78
  go_wp2
  obtain ⟨w1, hw1⟩ : ∃ w1, w1 = (w.alloc (.cells #[.int .i64 (W.length : Int), .slice A W.length c] 26)).alloc (.cells #[.int .i64 0, .slice none 0 0] 26) := ⟨_, rfl⟩
  rw [← hw1]
  have k0 : w1.cell? ⟨w.heap.size, 0, none⟩ = some (.int .i64 (W.length : Int)) := by rw [hw1]; go_simp
  have k1 : w1.cell? ⟨w.heap.size, 1, none⟩ = some (.slice A W.length c) := by rw [hw1]; go_simp
  have j0 : w1.cell? ⟨w.heap.size + 1, 0, none⟩ = some (.int .i64 0) := by rw [hw1]; go_simp
  have j1 : w1.cell? ⟨w.heap.size + 1, 1, none⟩ = some (.slice none 0 0) := by rw [hw1]; go_simp
  have f0 : w1.frozen? ⟨w.heap.size + 1, 0, none⟩ = false := by rw [hw1]; go_simp
  have f1 : w1.frozen? ⟨w.heap.size + 1, 1, none⟩ = false := by rw [hw1]; go_simp
  have hbw : Below w.heap.size w w1 := by rw [hw1]; go_grown
  have hsz : w.heap.size + 2 ≤ w1.heap.size := by rw [hw1]; simp
  have h := h.rowAt hbw (Nat.le_refl _)
  have HK := Lib.hid (fun W' (hW : Below w1.heap.size w1 W') => (⟨hW, held_at k0 k1 hW⟩ : Below w1.heap.size w1 W' ∧ W'.cell? ⟨w.heap.size, 0, none⟩ = some (.int .i64 (W.length : Int)) ∧ W'.cell? ⟨w.heap.size, 1, none⟩ = some (.slice A W.length c)))
  have hbb : Below w1.heap.size w1 w1 := Below.refl _ _
  clear hw1
  have HM1 : Hid (Own (w1.alloc (.cells #[] 3)).drew w1.heap.size (w1.heap.size + 1) 3 (some ⟨w1.heap.size, 0, none⟩) 0 (ints [])) := Lib.hid (Own.made w1 w1.heap.size 3 #[] (Nat.le_refl _) (by simp))
  have HM2 : Hid (Own ((w1.alloc (.cells #[] 3)).alloc (.cells #[.int .i64 0, .slice none 0 0] 26)).drew w1.heap.size (w1.heap.size + 1) 3 (some ⟨w1.heap.size, 0, none⟩) 0 (ints [])) := Lib.hid ((Own.made w1 w1.heap.size 3 #[] (Nat.le_refl _) (by simp)).alloc (by simp) (.cells #[.int .i64 0, .slice none 0 0] 26))
  have HM3 : Hid (Own ((w1.alloc (.cells #[.int .i64 0, .slice none 0 0] 26)).alloc (.cells #[] 3)).drew (w1.heap.size + 1) (w1.heap.size + 2) 3 (some ⟨w1.heap.size + 1, 0, none⟩) 0 (ints [])) := Lib.hid (by
    have hm := Own.made (w1.alloc (.cells #[.int .i64 0, .slice none 0 0] 26)) (w1.heap.size + 1) 3 #[] (by simp) (by simp)
    rw [World.size_alloc] at hm
    exact hm)
  have HR1 : Hid (Row (w1.alloc (.cells #[] 3)).drew w1.heap.size A (ints (casts W))) := Lib.hid (h.alloc (Nat.le_refl _) (.cells #[] 3))
  have HR2 : Hid (Row ((w1.alloc (.cells #[] 3)).alloc (.cells #[.int .i64 0, .slice none 0 0] 26)).drew w1.heap.size A (ints (casts W))) := Lib.hid ((h.alloc (Nat.le_refl _) (.cells #[] 3)).alloc (by simp) (.cells #[.int .i64 0, .slice none 0 0] 26))
  have HR3 : Hid (Row ((w1.alloc (.cells #[.int .i64 0, .slice none 0 0] 26)).alloc (.cells #[] 3)).drew w1.heap.size A (ints (casts W))) := Lib.hid ((h.alloc (Nat.le_refl _) (.cells #[.int .i64 0, .slice none 0 0] 26)).alloc (by simp) (.cells #[] 3))
  have HB2 : Hid (((w1.alloc (.cells #[] 3)).alloc (.cells #[.int .i64 0, .slice none 0 0] 26)).drew.heap[w1.heap.size + 1]? = some (.cells #[.int .i64 0, .slice none 0 0] 26 (0, 0))) := Lib.hid (by
    have hm := heap_alloc_new (w1.alloc (.cells #[] 3)) (.cells #[.int .i64 0, .slice none 0 0] 26)
    rw [World.size_alloc] at hm
    exact hm)
  go_region_held3 (fun w' => Below w1.heap.size w1 w' ∧ w'.cell? ⟨w.heap.size, 0, none⟩ = some (.int .i64 (W.length : Int)) ∧ w'.cell? ⟨w.heap.size, 1, none⟩ = some (.slice A W.length c))
    ((refine HK.out _ ?_; go_grown))
    (first
      | (refine step_pushAll (by rfl) (.tmp 10) (.tmp 12) (by rfl) (w1.heap.size) (w1.heap.size + 1) w1.heap.size (some ⟨w1.heap.size, 0, none⟩) A 0 0 W.length c [] (casts W) (by rfl) (by rfl) rfl (casts_length W).symm HM1.out HR1.out (by omega) (by omega) (by simp) ?_; intro G d wq ho hg; rw [Nat.zero_add]; have hzg := hg.size; simp only [World.size_drew, World.size_alloc] at hzg; have hzq : w1.heap.size ≤ wq.heap.size := (by omega); have hbb : Below w1.heap.size w1 wq := below_only (B := w1.heap.size) (by go_grown) hg (Nat.le_refl _) (by simp); have hord := trivial)
      | (refine step_pushAll (by rfl) (.tmp 10) (.tmp 12) (by rfl) (w1.heap.size) (w1.heap.size + 1) w1.heap.size (some ⟨w1.heap.size, 0, none⟩) A 0 0 W.length c [] (casts W) (by rfl) (by rfl) rfl (casts_length W).symm HM2.out HR2.out (by omega) (by omega) (by simp; omega) ?_; intro G d wq ho hg; rw [Nat.zero_add]; have hzg := hg.size; simp only [World.size_drew, World.size_alloc] at hzg; have hzq : w1.heap.size ≤ wq.heap.size := (by omega); have hbb : Below w1.heap.size w1 wq := below_only (B := w1.heap.size) (by go_grown) hg (Nat.le_refl _) (by simp; omega); have u0 : wq.cell? ⟨w1.heap.size + 1, 0, none⟩ = some (.int .i64 0) := (hg.cell (p := ⟨w1.heap.size + 1, 0, none⟩) (by simp) (by simp)).trans (by go_simp); have u1 : wq.cell? ⟨w1.heap.size + 1, 1, none⟩ = some (.slice none 0 0) := (hg.cell (p := ⟨w1.heap.size + 1, 1, none⟩) (by simp) (by simp)).trans (by go_simp); have u2 : wq.frozen? ⟨w1.heap.size + 1, 0, none⟩ = false := (hg.frozen (p := ⟨w1.heap.size + 1, 0, none⟩) (by simp) (by simp)).trans (by go_simp); have u3 : wq.frozen? ⟨w1.heap.size + 1, 1, none⟩ = false := (hg.frozen (p := ⟨w1.heap.size + 1, 1, none⟩) (by simp) (by simp)).trans (by go_simp); have ublk : Hid (wq.heap[w1.heap.size + 1]? = some (.cells #[.int .i64 0, .slice none 0 0] 26 (0, 0))) := Lib.hid ((hg.block (w1.heap.size + 1) (by simp) (by simp)).trans HB2.out))
      | (refine step_pushAll (by rfl) (.tmp 10) (.tmp 12) (by rfl) (w1.heap.size + 1) (w1.heap.size + 2) w1.heap.size (some ⟨w1.heap.size + 1, 0, none⟩) A 0 0 W.length c [] (casts W) (by rfl) (by rfl) rfl (casts_length W).symm HM3.out HR3.out (by omega) (by omega) (by simp) ?_; intro G d wq ho hg; rw [Nat.zero_add]; have hzg := hg.size; simp only [World.size_drew, World.size_alloc] at hzg; have hzq : w1.heap.size ≤ wq.heap.size := (by omega); have hbb : Below w1.heap.size w1 wq := below_only (B := w1.heap.size) (by go_grown) hg (Nat.le_succ _) (by simp; omega); have u0 : wq.cell? ⟨w1.heap.size, 0, none⟩ = some (.int .i64 0) := (hg.cell (p := ⟨w1.heap.size, 0, none⟩) (by simp; omega) (by simp)).trans (by go_simp); have u1 : wq.cell? ⟨w1.heap.size, 1, none⟩ = some (.slice none 0 0) := (hg.cell (p := ⟨w1.heap.size, 1, none⟩) (by simp; omega) (by simp)).trans (by go_simp); have u2 : wq.frozen? ⟨w1.heap.size, 0, none⟩ = false := (hg.frozen (p := ⟨w1.heap.size, 0, none⟩) (by simp; omega) (by simp)).trans (by go_simp); have u3 : wq.frozen? ⟨w1.heap.size, 1, none⟩ = false := (hg.frozen (p := ⟨w1.heap.size, 1, none⟩) (by simp; omega) (by simp)).trans (by go_simp)))
  · obtain ⟨wo, hwo⟩ : ∃ wo, wo = wq.alloc (.cells #[.int .i64 (W.length : Int), .slice G W.length d] 26) := ⟨_, rfl⟩
    have o0 : wo.cell? ⟨wq.heap.size, 0, none⟩ = some (.int .i64 (W.length : Int)) := by rw [hwo]; go_simp
    have o1 : wo.cell? ⟨wq.heap.size, 1, none⟩ = some (.slice G W.length d) := by rw [hwo]; go_simp
    have hO : Own wo (w1.heap.size) (wq.heap.size) 3 G d (ints (casts W)) := by rw [hwo]; exact (ho.alloc (Nat.le_refl _) _)
    have hbo : Below w1.heap.size w1 wo := by rw [hwo]; exact (hbb.alloc hzq _)
    have hob : w1.heap.size ≤ wq.heap.size := by omega
    have hlo : w1.heap.size ≤ w1.heap.size := by first | omega | (simp; done) | (simp; omega)
    have hhi : wq.heap.size ≤ wo.heap.size := by rw [hwo]; simp
    rw [← hwo]
    obtain ⟨g, rfl, hg1, hg2, hca, hfa⟩ := hO.nat ha
    have hgo : g ≠ wq.heap.size := by omega
    have xa : W[a] < 256 := hT.lt256' ha
    have E1 := xor_pow' b W[a] (by omega) xa
    obtain ⟨q1, q2⟩ := pow_small b (by omega)
    have hw1 : IntKind.i64.wrap (2 ^ b) = 2 ^ b := by rw [IntKind.wrap_i64]; omega
    have hO2 := hO.set a (.int .i64 ((W[a] ^^^ 2 ^ b : Nat) : Int))
    rw [ints_casts_set, show W.set a (W[a] ^^^ 2 ^ b) = flip1 W a b by unfold flip1; rw [getD_lt _ _ _ ha]] at hO2
    have HO2 := Lib.hid hO2
    have t0 : (0 : Int) ≤ (a : Int) := by omega
    have t1 : (a : Int) < (W.length : Int) := by omega
    have t2 : (0 : Int) ≤ (b : Int) := by omega
    have t3 : (b : Int) < (W.length : Int) := by omega
    clear hO hO2 hwo hg HM1 HM2 HM3 HR1 HR2 HR3
    generalize W[a] ^^^ 2 ^ b = ya at *
    go_wp2
    go_region
    obtain ⟨w5, hw5⟩ : ∃ w5, w5 = (wo.setCell ⟨g, a, none⟩ (.int .i64 (ya : Int))).drew := ⟨_, rfl⟩
    rw [← hw5]
    have HO3 : Hid (Own w5 (w1.heap.size) (wq.heap.size) 3 (some ⟨g, 0, none⟩) d (ints (casts (flip1 W a b)))) := Lib.hid (by rw [hw5]; exact HO2.out.drew)
    have o0' : w5.cell? ⟨wq.heap.size, 0, none⟩ = some (.int .i64 (W.length : Int)) := by rw [hw5]; exact (World.cell?_setCell_other wo _ _ _ (fun e => by simp only [Addr.mk.injEq] at e; omega)).trans o0
    have o1' : w5.cell? ⟨wq.heap.size, 1, none⟩ = some (.slice (some ⟨g, 0, none⟩) W.length d) := by rw [hw5]; exact (World.cell?_setCell_other wo _ _ _ (fun e => by simp only [Addr.mk.injEq] at e; omega)).trans o1
    have hb5 : Below w1.heap.size w1 w5 := by rw [hw5]; exact (hbo.setCell (p := ⟨g, a, none⟩) (by show _ ≤ g; omega) _).drew
    have hz5 : w5.heap.size = wo.heap.size := by rw [hw5]; simp
    clear hw5 o0 o1 HO2 hca hfa E1 hw1 q1 q2
    have hlb : b < (flip1 W a b).length := by rw [flip1_length]; exact hb
    obtain ⟨g', eg, _, _, hcb, hfb⟩ := HO3.out.nat hlb
    simp only [Option.some.injEq, Addr.mk.injEq, and_true] at eg
    subst eg
    have xb : (flip1 W a b)[b] < 256 := by
      have := flip1_lt W W.length a b hT.lt ha hb b
      rw [getD_lt _ _ _ hlb] at this
      exact Nat.lt_of_lt_of_le this (pow_le8 _ g8)
    have E2 := xor_pow' a (flip1 W a b)[b] (by omega) xb
    obtain ⟨q1, q2⟩ := pow_small a (by omega)
    have hw2 : IntKind.i64.wrap (2 ^ a) = 2 ^ a := by rw [IntKind.wrap_i64]; omega
    have hO4 := HO3.out.set b (.int .i64 (((flip1 W a b)[b] ^^^ 2 ^ a : Nat) : Int))
    rw [ints_casts_set, show (flip1 W a b).set b ((flip1 W a b)[b] ^^^ 2 ^ a) = flipW W a b by unfold flipW; rw [show flip1 (flip1 W a b) b a = (flip1 W a b).set b ((flip1 W a b).getD b 0 ^^^ 2 ^ a) from rfl, getD_lt _ _ _ hlb]] at hO4
    have HO4 := Lib.hid hO4
    clear hO4 HO3
    generalize (flip1 W a b)[b] ^^^ 2 ^ a = yb at *
    generalize (flip1 W a b)[b] = zb at *
    go_wp2
    go_region
    obtain ⟨w6, hw6⟩ : ∃ w6, w6 = (w5.setCell ⟨g, b, none⟩ (.int .i64 (yb : Int))).drew := ⟨_, rfl⟩
    rw [← hw6]
    have HO5 : Hid (Own w6 (w1.heap.size) (wq.heap.size) 3 (some ⟨g, 0, none⟩) d (ints (casts (flipW W a b)))) := Lib.hid (by rw [hw6]; exact HO4.out.drew)
    have p0 : w6.cell? ⟨wq.heap.size, 0, none⟩ = some (.int .i64 (W.length : Int)) := by rw [hw6]; exact (World.cell?_setCell_other w5 _ _ _ (fun e => by simp only [Addr.mk.injEq] at e; omega)).trans o0'
    have p1 : w6.cell? ⟨wq.heap.size, 1, none⟩ = some (.slice (some ⟨g, 0, none⟩) W.length d) := by rw [hw6]; exact (World.cell?_setCell_other w5 _ _ _ (fun e => by simp only [Addr.mk.injEq] at e; omega)).trans o1'
    have hb6 : Below w1.heap.size w1 w6 := by rw [hw6]; exact (hb5.setCell (p := ⟨g, b, none⟩) (by show _ ≤ g; omega) _).drew
    have hz6 : w6.heap.size = w5.heap.size := by rw [hw6]; simp
    clear hw6 o0' o1' HO4 hcb hfb E2 hw2
    obtain ⟨⟨s0, s1⟩, ⟨u0, u1⟩⟩ := res_keep j0 j1 f0 f1 hb6
    clear j0 j1 f0 f1
    go_wp2
    refine bodyPost_ret (v := .agg #[.int .i64 (W.length : Int), .slice (some ⟨g, 0, none⟩) W.length d]) (by simp [results, Try.results78, go_sem, s0, s1]) rfl ⟨some ⟨g, 0, none⟩, d, ?_, ?_, ?_⟩
    · rw [casts_length, flipW_length]
    · refine Own.mono (Own.setCell (Own.setCell HO5.out ?_ _) ?_ _) (Nat.le_trans hbw.size hlo) (by simp; omega)
      all_goals (left; show w.heap.size + 1 < w1.heap.size; omega)
    · refine ((below_trans hbw hb6).setCell ?_ _).setCell ?_ _
      all_goals (show _ ≤ _; simp)
  · obtain ⟨wo, hwo⟩ : ∃ wo, wo = (wq.setCell ⟨w1.heap.size + 1, 0, none⟩ (.int .i64 (W.length : Int))).setCell ⟨w1.heap.size + 1, 1, none⟩ (.slice G W.length d) := ⟨_, rfl⟩
    have o0 : wo.cell? ⟨(w1.heap.size + 1), 0, none⟩ = some (.int .i64 (W.length : Int)) := by rw [hwo]; go_simp
    have o1 : wo.cell? ⟨(w1.heap.size + 1), 1, none⟩ = some (.slice G W.length d) := by rw [hwo]; go_simp
    have hO : Own wo (w1.heap.size) (wq.heap.size) 3 G d (ints (casts W)) := by rw [hwo]; exact (own_setCell_ne (own_setCell_ne ho (fun g e => own_ne (e ▸ ho) ublk.out (by decide))) (fun g e => own_ne (e ▸ ho) ublk.out (by decide)))
    have hbo : Below w1.heap.size w1 wo := by rw [hwo]; exact ((hbb.setCell (p := ⟨w1.heap.size + 1, 0, none⟩) (Nat.le_succ _) _).setCell (p := ⟨w1.heap.size + 1, 1, none⟩) (Nat.le_succ _) _)
    have hob : w1.heap.size ≤ (w1.heap.size + 1) := by omega
    have hlo : w1.heap.size ≤ w1.heap.size := by first | omega | (simp; done) | (simp; omega)
    have hhi : wq.heap.size ≤ wo.heap.size := by rw [hwo]; simp
    rw [← hwo]
    obtain ⟨g, rfl, hg1, hg2, hca, hfa⟩ := hO.nat ha
    have hgo : g ≠ (w1.heap.size + 1) := own_ne ho ublk.out (by decide)
    have xa : W[a] < 256 := hT.lt256' ha
    have E1 := xor_pow' b W[a] (by omega) xa
    obtain ⟨q1, q2⟩ := pow_small b (by omega)
    have hw1 : IntKind.i64.wrap (2 ^ b) = 2 ^ b := by rw [IntKind.wrap_i64]; omega
    have hO2 := hO.set a (.int .i64 ((W[a] ^^^ 2 ^ b : Nat) : Int))
    rw [ints_casts_set, show W.set a (W[a] ^^^ 2 ^ b) = flip1 W a b by unfold flip1; rw [getD_lt _ _ _ ha]] at hO2
    have HO2 := Lib.hid hO2
    have t0 : (0 : Int) ≤ (a : Int) := by omega
    have t1 : (a : Int) < (W.length : Int) := by omega
    have t2 : (0 : Int) ≤ (b : Int) := by omega
    have t3 : (b : Int) < (W.length : Int) := by omega
    clear hO hO2 hwo hg HM1 HM2 HM3 HR1 HR2 HR3
    generalize W[a] ^^^ 2 ^ b = ya at *
    go_wp2
    go_region
    obtain ⟨w5, hw5⟩ : ∃ w5, w5 = (wo.setCell ⟨g, a, none⟩ (.int .i64 (ya : Int))).drew := ⟨_, rfl⟩
    rw [← hw5]
    have HO3 : Hid (Own w5 (w1.heap.size) (wq.heap.size) 3 (some ⟨g, 0, none⟩) d (ints (casts (flip1 W a b)))) := Lib.hid (by rw [hw5]; exact HO2.out.drew)
    have o0' : w5.cell? ⟨(w1.heap.size + 1), 0, none⟩ = some (.int .i64 (W.length : Int)) := by rw [hw5]; exact (World.cell?_setCell_other wo _ _ _ (fun e => by simp only [Addr.mk.injEq] at e; omega)).trans o0
    have o1' : w5.cell? ⟨(w1.heap.size + 1), 1, none⟩ = some (.slice (some ⟨g, 0, none⟩) W.length d) := by rw [hw5]; exact (World.cell?_setCell_other wo _ _ _ (fun e => by simp only [Addr.mk.injEq] at e; omega)).trans o1
    have hb5 : Below w1.heap.size w1 w5 := by rw [hw5]; exact (hbo.setCell (p := ⟨g, a, none⟩) (by show _ ≤ g; omega) _).drew
    have hz5 : w5.heap.size = wo.heap.size := by rw [hw5]; simp
    clear hw5 o0 o1 HO2 hca hfa E1 hw1 q1 q2
    have hlb : b < (flip1 W a b).length := by rw [flip1_length]; exact hb
    obtain ⟨g', eg, _, _, hcb, hfb⟩ := HO3.out.nat hlb
    simp only [Option.some.injEq, Addr.mk.injEq, and_true] at eg
    subst eg
    have xb : (flip1 W a b)[b] < 256 := by
      have := flip1_lt W W.length a b hT.lt ha hb b
      rw [getD_lt _ _ _ hlb] at this
      exact Nat.lt_of_lt_of_le this (pow_le8 _ g8)
    have E2 := xor_pow' a (flip1 W a b)[b] (by omega) xb
    obtain ⟨q1, q2⟩ := pow_small a (by omega)
    have hw2 : IntKind.i64.wrap (2 ^ a) = 2 ^ a := by rw [IntKind.wrap_i64]; omega
    have hO4 := HO3.out.set b (.int .i64 (((flip1 W a b)[b] ^^^ 2 ^ a : Nat) : Int))
    rw [ints_casts_set, show (flip1 W a b).set b ((flip1 W a b)[b] ^^^ 2 ^ a) = flipW W a b by unfold flipW; rw [show flip1 (flip1 W a b) b a = (flip1 W a b).set b ((flip1 W a b).getD b 0 ^^^ 2 ^ a) from rfl, getD_lt _ _ _ hlb]] at hO4
    have HO4 := Lib.hid hO4
    clear hO4 HO3
    generalize (flip1 W a b)[b] ^^^ 2 ^ a = yb at *
    generalize (flip1 W a b)[b] = zb at *
    go_wp2
    go_region
    obtain ⟨w6, hw6⟩ : ∃ w6, w6 = (w5.setCell ⟨g, b, none⟩ (.int .i64 (yb : Int))).drew := ⟨_, rfl⟩
    rw [← hw6]
    have HO5 : Hid (Own w6 (w1.heap.size) (wq.heap.size) 3 (some ⟨g, 0, none⟩) d (ints (casts (flipW W a b)))) := Lib.hid (by rw [hw6]; exact HO4.out.drew)
    have p0 : w6.cell? ⟨(w1.heap.size + 1), 0, none⟩ = some (.int .i64 (W.length : Int)) := by rw [hw6]; exact (World.cell?_setCell_other w5 _ _ _ (fun e => by simp only [Addr.mk.injEq] at e; omega)).trans o0'
    have p1 : w6.cell? ⟨(w1.heap.size + 1), 1, none⟩ = some (.slice (some ⟨g, 0, none⟩) W.length d) := by rw [hw6]; exact (World.cell?_setCell_other w5 _ _ _ (fun e => by simp only [Addr.mk.injEq] at e; omega)).trans o1'
    have hb6 : Below w1.heap.size w1 w6 := by rw [hw6]; exact (hb5.setCell (p := ⟨g, b, none⟩) (by show _ ≤ g; omega) _).drew
    have hz6 : w6.heap.size = w5.heap.size := by rw [hw6]; simp
    clear hw6 o0' o1' HO4 hcb hfb E2 hw2
    obtain ⟨⟨s0, s1⟩, ⟨u0, u1⟩⟩ := res_keep j0 j1 f0 f1 hb6
    clear j0 j1 f0 f1
    go_wp2
    refine bodyPost_ret (v := .agg #[.int .i64 (W.length : Int), .slice (some ⟨g, 0, none⟩) W.length d]) (by simp [results, Try.results78, go_sem, s0, s1]) rfl ⟨some ⟨g, 0, none⟩, d, ?_, ?_, ?_⟩
    · rw [casts_length, flipW_length]
    · refine Own.mono (Own.setCell (Own.setCell HO5.out ?_ _) ?_ _) (Nat.le_trans hbw.size hlo) (by simp; omega)
      all_goals (left; show w.heap.size + 1 < w1.heap.size; omega)
    · refine ((below_trans hbw hb6).setCell ?_ _).setCell ?_ _
      all_goals (show _ ≤ _; simp)
  · obtain ⟨wo, hwo⟩ : ∃ wo, wo = (wq.setCell ⟨w1.heap.size, 0, none⟩ (.int .i64 (W.length : Int))).setCell ⟨w1.heap.size, 1, none⟩ (.slice G W.length d) := ⟨_, rfl⟩
    have o0 : wo.cell? ⟨w1.heap.size, 0, none⟩ = some (.int .i64 (W.length : Int)) := by rw [hwo]; go_simp
    have o1 : wo.cell? ⟨w1.heap.size, 1, none⟩ = some (.slice G W.length d) := by rw [hwo]; go_simp
    have hO : Own wo (w1.heap.size + 1) (wq.heap.size) 3 G d (ints (casts W)) := by rw [hwo]; exact ((Own.setCell (Own.setCell ho (.inl (by show w1.heap.size < _; omega)) _) (.inl (by show w1.heap.size < _; omega)) _))
    have hbo : Below w1.heap.size w1 wo := by rw [hwo]; exact ((hbb.setCell (p := ⟨w1.heap.size, 0, none⟩) (Nat.le_refl _) _).setCell (p := ⟨w1.heap.size, 1, none⟩) (Nat.le_refl _) _)
    have hob : w1.heap.size ≤ w1.heap.size := by omega
    have hlo : w1.heap.size ≤ w1.heap.size + 1 := by first | omega | (simp; done) | (simp; omega)
    have hhi : wq.heap.size ≤ wo.heap.size := by rw [hwo]; simp
    rw [← hwo]
    obtain ⟨g, rfl, hg1, hg2, hca, hfa⟩ := hO.nat ha
    have hgo : g ≠ w1.heap.size := by omega
    have xa : W[a] < 256 := hT.lt256' ha
    have E1 := xor_pow' b W[a] (by omega) xa
    obtain ⟨q1, q2⟩ := pow_small b (by omega)
    have hw1 : IntKind.i64.wrap (2 ^ b) = 2 ^ b := by rw [IntKind.wrap_i64]; omega
    have hO2 := hO.set a (.int .i64 ((W[a] ^^^ 2 ^ b : Nat) : Int))
    rw [ints_casts_set, show W.set a (W[a] ^^^ 2 ^ b) = flip1 W a b by unfold flip1; rw [getD_lt _ _ _ ha]] at hO2
    have HO2 := Lib.hid hO2
    have t0 : (0 : Int) ≤ (a : Int) := by omega
    have t1 : (a : Int) < (W.length : Int) := by omega
    have t2 : (0 : Int) ≤ (b : Int) := by omega
    have t3 : (b : Int) < (W.length : Int) := by omega
    clear hO hO2 hwo hg HM1 HM2 HM3 HR1 HR2 HR3
    generalize W[a] ^^^ 2 ^ b = ya at *
    go_wp2
    go_region
    obtain ⟨w5, hw5⟩ : ∃ w5, w5 = (wo.setCell ⟨g, a, none⟩ (.int .i64 (ya : Int))).drew := ⟨_, rfl⟩
    rw [← hw5]
    have HO3 : Hid (Own w5 (w1.heap.size + 1) (wq.heap.size) 3 (some ⟨g, 0, none⟩) d (ints (casts (flip1 W a b)))) := Lib.hid (by rw [hw5]; exact HO2.out.drew)
    have o0' : w5.cell? ⟨w1.heap.size, 0, none⟩ = some (.int .i64 (W.length : Int)) := by rw [hw5]; exact (World.cell?_setCell_other wo _ _ _ (fun e => by simp only [Addr.mk.injEq] at e; omega)).trans o0
    have o1' : w5.cell? ⟨w1.heap.size, 1, none⟩ = some (.slice (some ⟨g, 0, none⟩) W.length d) := by rw [hw5]; exact (World.cell?_setCell_other wo _ _ _ (fun e => by simp only [Addr.mk.injEq] at e; omega)).trans o1
    have hb5 : Below w1.heap.size w1 w5 := by rw [hw5]; exact (hbo.setCell (p := ⟨g, a, none⟩) (by show _ ≤ g; omega) _).drew
    have hz5 : w5.heap.size = wo.heap.size := by rw [hw5]; simp
    clear hw5 o0 o1 HO2 hca hfa E1 hw1 q1 q2
    have hlb : b < (flip1 W a b).length := by rw [flip1_length]; exact hb
    obtain ⟨g', eg, _, _, hcb, hfb⟩ := HO3.out.nat hlb
    simp only [Option.some.injEq, Addr.mk.injEq, and_true] at eg
    subst eg
    have xb : (flip1 W a b)[b] < 256 := by
      have := flip1_lt W W.length a b hT.lt ha hb b
      rw [getD_lt _ _ _ hlb] at this
      exact Nat.lt_of_lt_of_le this (pow_le8 _ g8)
    have E2 := xor_pow' a (flip1 W a b)[b] (by omega) xb
    obtain ⟨q1, q2⟩ := pow_small a (by omega)
    have hw2 : IntKind.i64.wrap (2 ^ a) = 2 ^ a := by rw [IntKind.wrap_i64]; omega
    have hO4 := HO3.out.set b (.int .i64 (((flip1 W a b)[b] ^^^ 2 ^ a : Nat) : Int))
    rw [ints_casts_set, show (flip1 W a b).set b ((flip1 W a b)[b] ^^^ 2 ^ a) = flipW W a b by unfold flipW; rw [show flip1 (flip1 W a b) b a = (flip1 W a b).set b ((flip1 W a b).getD b 0 ^^^ 2 ^ a) from rfl, getD_lt _ _ _ hlb]] at hO4
    have HO4 := Lib.hid hO4
    clear hO4 HO3
    generalize (flip1 W a b)[b] ^^^ 2 ^ a = yb at *
    generalize (flip1 W a b)[b] = zb at *
    go_wp2
    go_region
    obtain ⟨w6, hw6⟩ : ∃ w6, w6 = (w5.setCell ⟨g, b, none⟩ (.int .i64 (yb : Int))).drew := ⟨_, rfl⟩
    rw [← hw6]
    have HO5 : Hid (Own w6 (w1.heap.size + 1) (wq.heap.size) 3 (some ⟨g, 0, none⟩) d (ints (casts (flipW W a b)))) := Lib.hid (by rw [hw6]; exact HO4.out.drew)
    have p0 : w6.cell? ⟨w1.heap.size, 0, none⟩ = some (.int .i64 (W.length : Int)) := by rw [hw6]; exact (World.cell?_setCell_other w5 _ _ _ (fun e => by simp only [Addr.mk.injEq] at e; omega)).trans o0'
    have p1 : w6.cell? ⟨w1.heap.size, 1, none⟩ = some (.slice (some ⟨g, 0, none⟩) W.length d) := by rw [hw6]; exact (World.cell?_setCell_other w5 _ _ _ (fun e => by simp only [Addr.mk.injEq] at e; omega)).trans o1'
    have hb6 : Below w1.heap.size w1 w6 := by rw [hw6]; exact (hb5.setCell (p := ⟨g, b, none⟩) (by show _ ≤ g; omega) _).drew
    have hz6 : w6.heap.size = w5.heap.size := by rw [hw6]; simp
    clear hw6 o0' o1' HO4 hcb hfb E2 hw2
    obtain ⟨⟨s0, s1⟩, ⟨u0, u1⟩⟩ := res_keep j0 j1 f0 f1 hb6
    clear j0 j1 f0 f1
    go_wp2
    refine bodyPost_ret (v := .agg #[.int .i64 (W.length : Int), .slice (some ⟨g, 0, none⟩) W.length d]) (by simp [results, Try.results78, go_sem, s0, s1]) rfl ⟨some ⟨g, 0, none⟩, d, ?_, ?_, ?_⟩
    · rw [casts_length, flipW_length]
    · refine Own.mono (Own.setCell (Own.setCell HO5.out ?_ _) ?_ _) (Nat.le_trans hbw.size hlo) (by simp; omega)
      all_goals (left; show w.heap.size + 1 < w1.heap.size + 1; omega)
    · refine ((below_trans hbw hb6).setCell ?_ _).setCell ?_ _
      all_goals (show _ ≤ _; simp)
/-- The rows of wins when a triangle is reversed. -/
def turnedW (W : List Nat) (x y z : Nat) : List Nat := flipW (flipW (flipW W x y) y z) z x
theorem turnedW_length (W : List Nat) (x y z : Nat) : (turnedW W x y z).length = W.length := by unfold turnedW; rw [flipW_length, flipW_length, flipW_length]
/-- What both functions ReverseTriangle answer. -/
def turnL (W : List Nat) (ts : List Int) : List Nat := turnedW W (ts.getD 0 0).toNat (ts.getD 1 0).toNat (ts.getD 2 0).toNat
def tReverseTriangle (s : Int) (zs : List Int) (ts : List Int) : Int := if rIsTriangle s zs ts then ((toW zs).length : Int) else 0
def rReverseTriangle (s : Int) (zs : List Int) (ts : List Int) : List Int := if rIsTriangle s zs ts then casts (turnL (toW zs) ts) else []
def bReverseTriangle (s : Int) (zs : List Int) (ts : List Int) : Bool := rIsTriangle s zs ts
theorem isTri_facts {s : Int} {zs ts : List Int} (h : rIsTriangle s zs ts = true) : okB s zs = true ∧ triB (toW zs) ts = true := by
  unfold rIsTriangle at h
  split at h
  · rename_i h1; exact ⟨h1, h⟩
  · cases h
theorem triB_facts {W : List Nat} {ts : List Int} (h : triB W ts = true) : ∃ x y z : Nat, ts = tri3 x y z ∧ x < W.length ∧ y < W.length ∧ z < W.length ∧ triN W x y z = true := by
  by_cases hl : ts.length = 3
  · obtain ⟨x, y, z, rfl⟩ := three ts hl
    have ha : allIn 0 ((W.length : Int) - 1) [x, y, z] = true := by rw [triB_eq, Bool.and_eq_true] at h; exact h.1
    have hin : (0 ≤ x ∧ x ≤ (W.length : Int) - 1) ∧ (0 ≤ y ∧ y ≤ (W.length : Int) - 1) ∧ (0 ≤ z ∧ z ≤ (W.length : Int) - 1) := by
      have := (allIn_all 0 ((W.length : Int) - 1) [x, y, z]).1 ha
      exact ⟨this 0 (by simp), this 1 (by simp), this 2 (by simp)⟩
    obtain ⟨⟨x1, x2⟩, ⟨y1, y2⟩, ⟨z1, z2⟩⟩ := hin
    obtain ⟨i, rfl⟩ := Int.eq_ofNat_of_zero_le x1
    obtain ⟨j, rfl⟩ := Int.eq_ofNat_of_zero_le y1
    obtain ⟨k, rfl⟩ := Int.eq_ofNat_of_zero_le z1
    refine ⟨i, j, k, rfl, by omega, by omega, by omega, ?_⟩
    rw [← triB_triN W i j k (by omega) (by omega) (by omega)]
    exact h
  · rw [triB_len W ts hl] at h; cases h
theorem triN_ne {W : List Nat} (hT : IsT W) {x y z : Nat} (h : triN W x y z = true) : x ≠ y ∧ y ≠ z ∧ z ≠ x := by
  unfold triN at h
  simp only [Bool.and_eq_true, decide_eq_true_eq] at h
  obtain ⟨⟨⟨⟨h1, h2⟩, h3⟩, h4⟩, h5⟩ := h
  refine ⟨by omega, fun e => ?_, by omega⟩
  subst e
  rw [hT.self] at h4
  cases h4
theorem rReverseTriangle_len (s : Int) (zs ts : List Int) : (rReverseTriangle s zs ts).length ≤ 1048576 := by
  unfold rReverseTriangle
  split
  · rename_i h
    obtain ⟨W, rfl, rfl, hT⟩ := ok_tour (isTri_facts h).1
    have := hT.h8
    rw [casts_length, toW_casts]
    unfold turnL
    rw [turnedW_length]
    omega
  · simp
theorem rev_none {s : Int} {zs ts : List Int} (h : rIsTriangle s zs ts = false) {w w' : World} (hb : Below w.heap.size w w') : NewTourOk w (tReverseTriangle s zs ts) (rReverseTriangle s zs ts) (bReverseTriangle s zs ts) (.returned (.tuple #[.agg #[.int .i64 0, .slice none 0 0], .bool false])) w' :=
  newTourOk_none (by unfold tReverseTriangle; rw [h]; rfl) (by unfold rReverseTriangle; rw [h]; rfl) (by unfold bReverseTriangle; rw [h]) hb
end Go.Proofs.Ytaocjjocncoahaa
