/- tourOf, walked: the tour with some results. -/
import Derived.Test.YtaocjjocncoahaaKings
namespace Go.Proofs.Ytaocjjocncoahaa
open Go.RowKit

/-- Does i beat b: never himself. -/
def hb (f : Nat → Nat → Bool) (i b : Nat) : Bool := decide (i ≠ b) && f i b
/-- The rows of wins by some results. -/
def rowsOf (n : Nat) (f : Nat → Nat → Bool) : List Nat := (List.range n).map fun i => ofB n (hb f i)
/-- The rows when a players are done, and b results of the next. -/
def stOf (n : Nat) (f : Nat → Nat → Bool) (a b : Nat) : List Nat := (List.range n).map fun i => if i < a then ofB n (hb f i) else if i = a then ofB b (hb f i) else 0
theorem stOf_length (n : Nat) (f : Nat → Nat → Bool) (a b : Nat) : (stOf n f a b).length = n := by simp [stOf]
theorem rowsOf_length (n : Nat) (f : Nat → Nat → Bool) : (rowsOf n f).length = n := by simp [rowsOf]
theorem stOf_zero (n : Nat) (f : Nat → Nat → Bool) : stOf n f 0 0 = List.replicate n 0 := by
  rw [List.eq_replicate_iff]
  refine ⟨stOf_length _ _ _ _, fun x hx => ?_⟩
  simp only [stOf, List.mem_map] at hx
  obtain ⟨i, _, rfl⟩ := hx
  simp [ofB]
theorem stOf_next (n : Nat) (f : Nat → Nat → Bool) (a : Nat) : stOf n f a n = stOf n f (a + 1) 0 := by
  refine List.map_congr_left fun i _ => ?_
  by_cases h1 : i < a
  · rw [if_pos h1, if_pos (by omega)]
  · by_cases h2 : i = a
    · subst h2; rw [if_neg (by omega), if_pos rfl, if_pos (by omega)]
    · rw [if_neg h1, if_neg h2, if_neg (by omega)]; simp [ofB]
theorem stOf_end (n : Nat) (f : Nat → Nat → Bool) : stOf n f n 0 = rowsOf n f := by
  refine List.map_congr_left fun i hi => ?_
  rw [if_pos (by rwa [List.mem_range] at hi)]
theorem stOf_get (n : Nat) (f : Nat → Nat → Bool) (a b : Nat) (ha : a < (stOf n f a b).length) : (stOf n f a b)[a] = ofB b (hb f a) := by simp [stOf]
theorem stOf_skip (n : Nat) (f : Nat → Nat → Bool) (a b : Nat) (h : hb f a b = false) : stOf n f a (b + 1) = stOf n f a b := by
  refine List.map_congr_left fun i _ => ?_
  by_cases h2 : i = a
  · subst h2; simp [ofB, h]
  · simp [h2]
theorem stOf_set (n : Nat) (f : Nat → Nat → Bool) (a b : Nat) : (stOf n f a b).set a (ofB (b + 1) (hb f a)) = stOf n f a (b + 1) := by
  apply List.ext_getElem
  · simp [stOf_length]
  · intro i h1 h2
    rw [List.getElem_set]
    by_cases e : a = i
    · subst e; rw [if_pos rfl]; simp [stOf]
    · rw [if_neg e]
      have e' : ¬ i = a := fun h => e h.symm
      simp [stOf, e']
theorem ints_casts_set (W : List Nat) (a y : Nat) : (ints (casts W)).set a (.int .i64 (y : Nat)) = ints (casts (W.set a y)) := by
  unfold ints casts
  rw [List.map_set, List.map_set]

theorem Only.frozen {w w' : World} {lo hi : Nat} (h : Only lo hi w w') {p : Addr} (hp : p.block < w.heap.size) (hr : p.block < lo ∨ hi ≤ p.block) : w'.frozen? p = w.frozen? p :=
  World.frozen?_of_block (w := w) (h.block p.block hp hr)
theorem casts_zeros (n : Nat) : casts (List.replicate n 0) = List.replicate n 0 := by simp [casts]
/-- The function value says f of two different players, in every world in which all that lay lies unturned. -/
def PredTwo (g : Nat) (lb : Array Value) (f : Nat → Nat → Bool) (n : Nat) (w : World) : Prop :=
  ∀ (W : World) (a b : Nat), Below w.heap.size w W → a < n → b < n → a ≠ b → Calls Try.prog g (#[.int .i64 (a : Int), .int .i64 (b : Int)] ++ lb) W fun e W' => e = .returned (.bool (f a b)) ∧ Below W.heap.size W W'

set_option maxHeartbeats 800000 in
theorem tourOf_any (g : Nat) (lb : Array Value) (eg : ∀ args w, (callFunc g args).run Try.prog w = .ok (.enter g args) w) (f : Nat → Nat → Bool) (n : Nat) (w : World) (hp : PredTwo g lb f n w) (h1 : 1 ≤ n) (h8 : n ≤ 8) :
    Calls Try.prog 63 #[.int .i64 (n : Int), .func (.func g) #[] lb] w (NewTour w (n : Int) (casts (rowsOf n f))) := by
  have hmk := make_ints n (by omega)
  go_enter Try.func63, Try.ntmps63
  go_wp2
  clear hmk
  obtain ⟨w1, hw1⟩ : ∃ w1, w1 = ((w.alloc (.cells #[.int .i64 0, .slice none 0 0] 26)).alloc (.cells (madeCells #[.int .i64 0] n) 3)).alloc (.cells #[.int .i64 (n : Int), .slice (some ⟨w.heap.size + 1, 0, none⟩) n n] 26) := ⟨_, rfl⟩
  rw [← hw1]
  have r0 : w1.cell? ⟨w.heap.size, 0, none⟩ = some (.int .i64 0) := by rw [hw1]; go_simp
  have r1 : w1.cell? ⟨w.heap.size, 1, none⟩ = some (.slice none 0 0) := by rw [hw1]; go_simp
  have f0 : w1.frozen? ⟨w.heap.size, 0, none⟩ = false := by rw [hw1]; go_simp
  have f1 : w1.frozen? ⟨w.heap.size, 1, none⟩ = false := by rw [hw1]; go_simp
  have j0 : w1.cell? ⟨w.heap.size + 1 + 1, 0, none⟩ = some (.int .i64 (n : Int)) := by rw [hw1]; go_simp
  have j1 : w1.cell? ⟨w.heap.size + 1 + 1, 1, none⟩ = some (.slice (some ⟨w.heap.size + 1, 0, none⟩) n n) := by rw [hw1]; go_simp
  have hbw : Below w.heap.size w w1 := by rw [hw1]; go_grown
  have hsz : w.heap.size + 3 ≤ w1.heap.size := by rw [hw1]; simp
  have ho1 : Own w1 (w.heap.size + 1) (w.heap.size + 2) 3 (some ⟨w.heap.size + 1, 0, none⟩) n (ints (casts (stOf n f 0 0))) := by
    rw [hw1, stOf_zero, casts_zeros]
    have h := own_made (w.alloc (.cells #[.int .i64 0, .slice none 0 0] 26)) (w.heap.size + 1) n (by simp) (by omega)
    rw [World.size_alloc] at h
    exact h.alloc (by simp) _
  clear hw1
  go_loopw [13] (fun i wr => ∃ a : Nat, a ≤ n ∧ i = .int .i64 a ∧ Own wr (w.heap.size + 1) (w.heap.size + 2) 3 (some ⟨w.heap.size + 1, 0, none⟩) n (ints (casts (stOf n f a 0))) ∧ Only (w.heap.size + 1) (w.heap.size + 2) w1 wr) (fun i _ => n - (intOf i).toNat)
  case atStart => exact ⟨0, Nat.zero_le _, rfl, ho1, Only.refl _ _ _⟩
  case round =>
    obtain ⟨a, ha, rfl, ho, hon⟩ := hrel
    by_cases hlt : a < n
    · have HO0 := Lib.hid ho
      clear ho ho1
      go_wp2
      go_loopw [17] (fun i wr => ∃ b : Nat, b ≤ n ∧ i = .int .i64 b ∧ Own wr (w.heap.size + 1) (w.heap.size + 2) 3 (some ⟨w.heap.size + 1, 0, none⟩) n (ints (casts (stOf n f a b))) ∧ Only (w.heap.size + 1) (w.heap.size + 2) w1 wr) (fun i _ => n - (intOf i).toNat)
      case atStart => exact ⟨0, Nat.zero_le _, rfl, HO0.out, hon⟩
      case round =>
        obtain ⟨b, hb', rfl, ho, hon2⟩ := hrel
        have i0 := (hon2.cell (p := ⟨w.heap.size + 1 + 1, 0, none⟩) (by simp; omega) (by simp)).trans j0
        have i1 := (hon2.cell (p := ⟨w.heap.size + 1 + 1, 1, none⟩) (by simp; omega) (by simp)).trans j1
        have hsz2 := hon2.size
        by_cases hbn : b < n
        · by_cases hab : a = b
          · have hs := stOf_skip n f a b (by unfold Go.Proofs.Ytaocjjocncoahaa.hb; simp [hab])
            rw [← hs] at ho
            have HO := Lib.hid ho
            have e1 : ((a : Int) != (b : Int)) = false := by simp [hab]
            clear hab hs ho
            go_wp2
            go_roundw
            case rel => exact ⟨b + 1, by omega, by go_num, HO.out, hon2⟩
            case measure => simp [intOf]; omega
          · have e1 : ((a : Int) != (b : Int)) = true := by simp; omega
            have hbel : Below w.heap.size w wr := hbw.trans (hon2.below (by omega) (by omega))
            have hcall := Lib.hid (hp wr a b hbel hlt hbn hab)
            clear hp
            cases hf : f a b with
            | false =>
              have hs := stOf_skip n f a b (by unfold Go.Proofs.Ytaocjjocncoahaa.hb; simp [hf])
              rw [← hs] at ho
              have HO := Lib.hid ho
              have HF := Lib.hid hf
              clear hab hs ho hf
              go_wp2_with (go_at_fn g; refine hcall.out.mono ?_; rw [HF.out]; rintro e w2 ⟨rfl, hb2⟩)
              go_roundw
              case rel => exact ⟨b + 1, by omega, by go_num, HO.out.below hb2 (by omega), hon2.trans (Only.of_below hb2)⟩
              case measure => simp [intOf]; omega
            | true =>
              have hh : Go.Proofs.Ytaocjjocncoahaa.hb f a b = true := by unfold Go.Proofs.Ytaocjjocncoahaa.hb; simp [hf, hab]
              have HO := Lib.hid ho
              have HF := Lib.hid hf
              have hl1 := ofB_le n b (Go.Proofs.Ytaocjjocncoahaa.hb f a) hb' h8
              have E1 : bits .or .i64 ((ofB b (Go.Proofs.Ytaocjjocncoahaa.hb f a) : Nat) : Int) ((2 : Int) ^ b) = ((ofB (b + 1) (Go.Proofs.Ytaocjjocncoahaa.hb f a) : Nat) : Int) := by
                rw [or_pow' b _ (by omega) hl1, ofB_or, hh, if_pos rfl, Nat.or_comm]
              obtain ⟨q1, q2⟩ := pow_small b (by omega)
              have hw : IntKind.i64.wrap (2 ^ b) = 2 ^ b := by rw [IntKind.wrap_i64]; omega
              clear hab ho hf hh
              go_wp2_with (go_at_fn g; refine hcall.out.mono ?_; rw [HF.out]; rintro e w2 ⟨rfl, hb2⟩)
              have ho2 := HO.out.below hb2 (by omega)
              have i0' := (hb2.cell (p := ⟨w.heap.size + 1 + 1, 0, none⟩) (by simp; omega)).trans i0
              have i1' := (hb2.cell (p := ⟨w.heap.size + 1 + 1, 1, none⟩) (by simp; omega)).trans i1
              obtain ⟨g', hg', _, _, hcell, hfz⟩ := ho2.nat (k := a) (by rw [stOf_length]; exact hlt)
              simp only [Option.some.injEq, Addr.mk.injEq, and_true] at hg'
              subst hg'
              rw [stOf_get] at hcell
              have ho3 := ho2.set a (.int .i64 (ofB (b + 1) (Go.Proofs.Ytaocjjocncoahaa.hb f a) : Nat))
              rw [ints_casts_set, stOf_set] at ho3
              have HO3 := Lib.hid ho3
              have hon3 := hon2.trans (Only.of_below hb2)
              clear ho2 ho3 i0 i1
              go_region
              go_wp2
              go_roundw
              case rel => exact ⟨b + 1, by omega, by go_num, HO3.out, (hon3.setCell (p := ⟨w.heap.size + 1, a, none⟩) (by simp) (by simp) _).drew⟩
              case measure => simp [intOf]; omega
        · obtain rfl : b = n := by omega
          rw [stOf_next] at ho
          have HO := Lib.hid ho
          clear ho
          go_wp2
          go_roundw
          case rel => exact ⟨a + 1, by omega, by go_num, HO.out, hon2⟩
          case measure => simp [intOf]; omega
    · obtain rfl : a = n := by omega
      rw [stOf_end] at ho
      have HO := Lib.hid ho
      have s0 := (hon.cell (p := ⟨w.heap.size, 0, none⟩) (by simp; omega) (by simp)).trans r0
      have s1 := (hon.cell (p := ⟨w.heap.size, 1, none⟩) (by simp; omega) (by simp)).trans r1
      have t0 := (hon.frozen (p := ⟨w.heap.size, 0, none⟩) (by simp; omega) (by simp)).trans f0
      have t1 := (hon.frozen (p := ⟨w.heap.size, 1, none⟩) (by simp; omega) (by simp)).trans f1
      have i0 := (hon.cell (p := ⟨w.heap.size + 1 + 1, 0, none⟩) (by simp; omega) (by simp)).trans j0
      have i1 := (hon.cell (p := ⟨w.heap.size + 1 + 1, 1, none⟩) (by simp; omega) (by simp)).trans j1
      clear ho r0 r1 f0 f1 j0 j1
      go_wp2
      refine bodyPost_ret (v := .agg #[.int .i64 (a : Int), .slice (some ⟨w.heap.size + 1, 0, none⟩) a a]) (by simp [results, Try.results63, go_sem, s0, s1]) rfl ?_
      refine ⟨some ⟨w.heap.size + 1, 0, none⟩, a, ?_, ?_, ?_⟩
      · rw [casts_length, rowsOf_length]
      · refine Own.mono (Own.setCell (Own.setCell HO.out ?_ _) ?_ _) (by omega) (by have := hon.size; simp; omega)
        all_goals (left; show _ < _; simp)
      · refine ((hbw.trans (hon.below (by omega) (by omega))).setCell ?_ _).setCell ?_ _
        all_goals (show _ ≤ _; simp)
end Go.Proofs.Ytaocjjocncoahaa
