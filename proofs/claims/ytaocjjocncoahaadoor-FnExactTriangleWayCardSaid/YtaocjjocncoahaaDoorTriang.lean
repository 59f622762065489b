/- All triangles: triangles, l04All, TrianglesOf, walked. -/
import Derived.Test.YtaocjjocncoahaaDoorScore
import Derived.Test.YtaocjjocncoahaaDoorTables
namespace Go.Proofs.YtaocjjocncoahaaDoor
open Go.RowKit

/-- Three players who beat each other in a ring, the least one ahead. -/
def triN (W : List Nat) (a b c : Nat) : Bool := decide (a < b) && decide (a < c) && bt W a b && bt W b c && bt W c a
def tri3 (a b c : Nat) : List Int := [(a : Int), b, c]
def trisC (W : List Nat) (a b k : Nat) : List (List Int) := ((List.range k).filter (triN W a b)).map (tri3 a b)
def trisB (W : List Nat) (a k : Nat) : List (List Int) := (List.range k).flatMap fun b => trisC W a b W.length
def trisA (W : List Nat) (k : Nat) : List (List Int) := (List.range k).flatMap fun a => trisB W a W.length
/-- What has been found when a, b, c are next. -/
def stT (W : List Nat) (a b c : Nat) : List (List Int) := trisA W a ++ trisB W a b ++ trisC W a b c
/-- All triangles, in lexicographic order. -/
def triRows (W : List Nat) : List (List Int) := trisA W W.length
theorem stT_zero (W : List Nat) : stT W 0 0 0 = [] := rfl
theorem trisC_zero (W : List Nat) (a b : Nat) : trisC W a b 0 = [] := rfl
theorem trisB_zero (W : List Nat) (a : Nat) : trisB W a 0 = [] := rfl
theorem stT_hit (W : List Nat) (a b c : Nat) (h : triN W a b c = true) : stT W a b (c + 1) = stT W a b c ++ [tri3 a b c] := by
  simp [stT, trisC, List.range_succ, List.filter_append, h]
theorem stT_miss (W : List Nat) (a b c : Nat) (h : triN W a b c = false) : stT W a b (c + 1) = stT W a b c := by
  simp [stT, trisC, List.range_succ, List.filter_append, h]
theorem stT_c (W : List Nat) (a b : Nat) : stT W a b W.length = stT W a (b + 1) 0 := by
  unfold stT
  rw [trisC_zero, List.append_nil, List.append_assoc]
  simp [trisB, List.range_succ]
theorem stT_b (W : List Nat) (a : Nat) : stT W a W.length 0 = stT W (a + 1) 0 0 := by
  unfold stT
  rw [trisC_zero, trisC_zero, trisB_zero, List.append_nil, List.append_nil, List.append_nil]
  simp [trisA, List.range_succ]
theorem stT_end (W : List Nat) : stT W W.length 0 0 = triRows W := by
  unfold stT
  rw [trisC_zero, trisB_zero, List.append_nil, List.append_nil]
  rfl
theorem trisC_none (W : List Nat) (a b k : Nat) (h : ∀ c, c < k → triN W a b c = false) : trisC W a b k = [] := by
  unfold trisC
  rw [List.map_eq_nil_iff, List.filter_eq_nil_iff]
  intro c hc
  rw [List.mem_range] at hc
  rw [h c hc]
  simp
theorem stT_skipB (W : List Nat) (a b : Nat) (h : b ≤ a + 1) : stT W a b 0 = stT W a 0 0 := by
  have : trisB W a b = [] := by
    unfold trisB
    rw [List.flatMap_eq_nil_iff]
    intro b' hb
    rw [List.mem_range] at hb
    refine trisC_none _ _ _ _ fun c _ => ?_
    unfold triN
    rw [decide_eq_false (show ¬ a < b' by omega)]
    rfl
  unfold stT
  rw [this, trisB_zero, trisC_zero, trisC_zero]
theorem stT_skipC (W : List Nat) (a b c : Nat) (h : c ≤ a + 1) : stT W a b c = stT W a b 0 := by
  have : trisC W a b c = [] := by
    refine trisC_none _ _ _ _ fun c' hc => ?_
    unfold triN
    rw [decide_eq_false (show ¬ a < c' by omega)]
    simp
  unfold stT
  rw [this, trisC_zero]
theorem trisC_le (W : List Nat) (a b k : Nat) : (trisC W a b k).length ≤ k := by
  unfold trisC
  rw [List.length_map]
  exact Nat.le_trans (List.length_filter_le _ _) (by simp)
theorem flat_le {f : Nat → List (List Int)} {m : Nat} (h : ∀ i, (f i).length ≤ m) (k : Nat) : ((List.range k).flatMap f).length ≤ m * k := by
  induction k with
  | zero => simp
  | succ k ih =>
    rw [List.range_succ, List.flatMap_append, List.length_append]
    have := h k
    simp only [List.flatMap_cons, List.flatMap_nil, List.append_nil]
    rw [Nat.mul_succ]
    omega
theorem stT_le (W : List Nat) (h8 : W.length ≤ 8) (a b c : Nat) (ha : a ≤ W.length) (hb : b ≤ W.length) (hc : c ≤ W.length) : (stT W a b c).length ≤ 1000 := by
  have h1 := trisC_le W a b c
  have h2 : (trisB W a b).length ≤ 8 * b := flat_le (fun i => Nat.le_trans (trisC_le W a i W.length) h8) b
  have h3 : (trisA W a).length ≤ 64 * a := flat_le (fun i => Nat.le_trans (flat_le (fun j => Nat.le_trans (trisC_le W i j W.length) h8) W.length) (by omega)) a
  unfold stT
  simp only [List.length_append]
  omega
theorem triRows_le (W : List Nat) (h8 : W.length ≤ 8) : (triRows W).length ≤ 1000 := by
  rw [← stT_end]
  exact stT_le W h8 _ _ _ (Nat.le_refl _) (by omega) (by omega)
theorem triRows_mem (W : List Nat) (r : List Int) (h : r ∈ triRows W) : ∃ a b c, a < W.length ∧ b < W.length ∧ c < W.length ∧ r = tri3 a b c ∧ triN W a b c = true := by
  unfold triRows trisA trisB trisC at h
  simp only [List.mem_flatMap, List.mem_range, List.mem_map, List.mem_filter] at h
  obtain ⟨a, ha, b, hb, c, ⟨hc, ht⟩, rfl⟩ := h
  exact ⟨a, b, c, ha, hb, hc, rfl, ht⟩
theorem total_le3 (rs : List (List Int)) (m : Nat) (h : ∀ r ∈ rs, r.length ≤ m) : total rs ≤ m * rs.length := by
  induction rs with
  | nil => simp [total]
  | cons r rs ih =>
    have h1 := h r (by simp)
    have h2 := ih (fun x hx => h x (by simp [hx]))
    simp only [total, List.length_cons, Nat.mul_succ]
    omega
theorem triRows_len3 (W : List Nat) (r : List Int) (h : r ∈ triRows W) : r.length ≤ 3 := by
  obtain ⟨a, b, c, _, _, _, rfl, _⟩ := triRows_mem W r h
  simp [tri3]
theorem triB_triN (W : List Nat) (i j k : Nat) (hi : i < W.length) (hj : j < W.length) (hk : k < W.length) : triB W (tri3 i j k) = triN W i j k := triB_nat W i j k hi hj hk

set_option maxHeartbeats 800000 in
theorem triangles_any (A : Option Addr) (c : Nat) (W : List Nat) (w : World) (hT : IsT W) (h : Row w w.heap.size A (ints (casts W))) :
    Calls Tryd.prog 38 #[.agg #[.int .i64 (W.length : Int), .slice A W.length c]] w (NewTable w (triRows W)) := by
  have g1 := hT.h1
  have g8 := hT.h8
  go_enter Tryd.func38, Tryd.ntmps38
  go_wp2
  obtain ⟨w1, hw1⟩ : ∃ w1, w1 = w.alloc (.cells #[.int .i64 (W.length : Int), .slice A W.length c] 24) := ⟨_, rfl⟩
  rw [← hw1]
  have k0 : w1.cell? ⟨w.heap.size, 0, none⟩ = some (.int .i64 (W.length : Int)) := by rw [hw1]; go_simp
  have k1 : w1.cell? ⟨w.heap.size, 1, none⟩ = some (.slice A W.length c) := by rw [hw1]; go_simp
  have hbw : Below w.heap.size w w1 := by rw [hw1]; go_grown
  have h := h.rowAt hbw (Nat.le_refl _)
  clear hw1
  go_loopw [3, 10] (fun v i wr => ∃ (a : Nat) (B : Option Addr) (d n : Nat), a ≤ W.length ∧ i = .int .i64 a ∧ v = .slice B n d ∧ Hid (n = (stT W a 0 0).length) ∧ n ≤ 1000 ∧ OwnT wr w1.heap.size wr.heap.size B d (stT W a 0 0) ∧ Below w1.heap.size w1 wr) (fun _ i _ => W.length - (intOf i).toNat)
  case atStart => exact ⟨0, none, 0, 0, Nat.zero_le _, rfl, rfl, Lib.hid rfl, by omega, OwnT.nil _ _ _, Below.refl _ _⟩
  case round =>
    obtain ⟨a, B, d, n, ha, rfl, rfl, HN, hn, ho, hb⟩ := hrel
    have HO := Lib.hid ho
    clear ho
    obtain ⟨c0, c1⟩ := held_at k0 k1 hb
    by_cases hlt : a < W.length
    · go_wp2
      go_loopw [3, 15] (fun v i wr => ∃ (b : Nat) (B : Option Addr) (d n : Nat), b ≤ W.length ∧ i = .int .i64 b ∧ v = .slice B n d ∧ Hid (n = (stT W a b 0).length) ∧ n ≤ 1000 ∧ OwnT wr w1.heap.size wr.heap.size B d (stT W a b 0) ∧ Below w1.heap.size w1 wr) (fun _ i _ => W.length - (intOf i).toNat)
      case atStart => exact ⟨0, B, d, n, Nat.zero_le _, rfl, rfl, HN, hn, HO.out, hb⟩
      case round =>
        clear hb c0 c1 HO HN hn
        obtain ⟨b, B, d, n, hbl, rfl, rfl, HN, hn, ho, hb⟩ := hrel
        have HO := Lib.hid ho
        clear ho
        obtain ⟨c0, c1⟩ := held_at k0 k1 hb
        by_cases hltb : b < W.length
        · go_wp2
          go_loopw [3, 20] (fun v i wr => ∃ (x : Nat) (B : Option Addr) (d n : Nat), x ≤ W.length ∧ i = .int .i64 x ∧ v = .slice B n d ∧ Hid (n = (stT W a b x).length) ∧ n ≤ 1000 ∧ OwnT wr w1.heap.size wr.heap.size B d (stT W a b x) ∧ Below w1.heap.size w1 wr) (fun _ i _ => W.length - (intOf i).toNat)
          case atStart => exact ⟨0, B, d, n, Nat.zero_le _, rfl, rfl, HN, hn, HO.out, hb⟩
          case round =>
            clear hb c0 c1 HO HN hn
            obtain ⟨x, B, d, n, hxl, rfl, rfl, HN, hn, ho, hb⟩ := hrel
            have HO := Lib.hid ho
            clear ho
            by_cases hltx : x < W.length
            · obtain ⟨w2, hw2⟩ : ∃ w2, w2 = wr.alloc (.cells #[.int .i64 (a : Int), .int .i64 (b : Int), .int .i64 (x : Int)] 3) := ⟨_, rfl⟩
              have hbn : Below wr.heap.size wr w2 := by rw [hw2]; go_grown
              have hlist : Own w2 w1.heap.size w2.heap.size 3 (some ⟨wr.heap.size, 0, none⟩) 3 (ints (tri3 a b x)) := by
                have := Own.made wr w1.heap.size 3 #[.int .i64 (a : Int), .int .i64 (b : Int), .int .i64 (x : Int)] hb.size (by simp [maxLen])
                rw [hw2]
                exact this.mono (Nat.le_refl _) (by simp)
              have hb2 := below_trans hb hbn
              obtain ⟨c0, c1⟩ := held_at k0 k1 hb2
              have d0 : (wr.alloc (.cells #[.int .i64 (a : Int), .int .i64 (b : Int), .int .i64 (x : Int)] 3)).cell? ⟨w.heap.size, 0, none⟩ = some (.int .i64 (W.length : Int)) := by rw [← hw2]; exact c0
              have d1 : (wr.alloc (.cells #[.int .i64 (a : Int), .int .i64 (b : Int), .int .i64 (x : Int)] 3)).cell? ⟨w.heap.size, 1, none⟩ = some (.slice A W.length c) := by rw [← hw2]; exact c1
              have hO2 := HO.out.below hbn (Nat.le_refl _)
              have hsz2 : w2.heap.size = wr.heap.size + 1 := by rw [hw2]; simp
              have HL := Lib.hid hlist
              have HO2 := Lib.hid hO2
              have HC := Lib.hid (isTriangle_any A c W (some ⟨wr.heap.size, 0, none⟩) 3 (tri3 a b x) w2 hT (h.rowAt hb2 (Nat.le_refl _)) hlist.row (by simp [tri3]))
              have HB := Lib.hid (triB_triN W a b x hlt hltb hltx)
              have hle := stT_le W g8 a b (x + 1) (by omega) (by omega) (by omega)
              clear hlist hO2 HO
              cases htri : triN W a b x with
              | true =>
                have HS := Lib.hid (stT_hit W a b x htri)
                have HBT := Lib.hid (HB.out.trans htri)
                have hle2 : n + 1 ≤ 1000 := by rw [HS.out, List.length_append, ← HN.out] at hle; exact hle
                clear htri hle
                go_wp2_with fail
                rw [← hw2]
                clear hw2 d0 d1
                refine HC.out.mono ?_
                rw [HBT.out]
                rintro e w3 ⟨rfl, hb3⟩
                have hb13 := below_trans hb2 hb3
                have HL3 := Lib.hid (HL.out.below hb3 (Nat.le_refl _))
                have HO3 := Lib.hid (HO2.out.below hb3 (by omega))
                have hsz3 := hb3.size
                have hsz1 := hb.size
                go_wp2_with (at_builtin; refine wpList_pushT rfl (.tmp 30) (.tmp 32) rfl w1.heap.size wr.heap.size w2.heap.size B d n (stT W a b x) (tri3 a b x) wr.heap.size 3 w3.heap.size 3 rfl rfl HN.out (HO3.out.alloc (by omega) _) (HL3.out.alloc (by omega) _) rfl (Nat.le_refl _) (by simp; omega) (by simp; omega) ?c0 (by omega) (by simp; omega) ?_)
                case c0 => go_simp
                intro A' c' w4 ho4 hg4
                have HO4 := Lib.hid ho4
                clear ho4
                go_wp2
                go_roundw
                case rel => exact ⟨x + 1, A', c', n + 1, by omega, by go_num, rfl, Lib.hid (by rw [HS.out, List.length_append, HN.out]; rfl), hle2, by rw [HS.out]; exact HO4.out, below_only (hb13.alloc hb13.size _) hg4 (Nat.le_refl _) (by simp; omega)⟩
                case measure => simp [intOf]; omega
              | false =>
                have HS := Lib.hid (stT_miss W a b x htri)
                have HBT := Lib.hid (HB.out.trans htri)
                clear htri hle
                go_wp2_with fail
                rw [← hw2]
                clear hw2 d0 d1
                refine HC.out.mono ?_
                rw [HBT.out]
                rintro e w3 ⟨rfl, hb3⟩
                have hb13 := below_trans hb2 hb3
                have HO3 := Lib.hid (HO2.out.below hb3 (by omega))
                have hsz3 := hb3.size
                go_wp2
                go_roundw
                case rel => exact ⟨x + 1, B, d, n, by omega, by go_num, rfl, by rw [HS.out]; exact HN, hn, by rw [HS.out]; exact HO3.out.mono (Nat.le_refl _) (by omega), hb13⟩
                case measure => simp [intOf]; omega
            · obtain rfl : x = W.length := by omega
              have HS := Lib.hid (stT_c W a b)
              go_wp2
              go_roundw
              case rel => exact ⟨b + 1, B, d, n, by omega, by go_num, rfl, by rw [← HS.out]; exact HN, hn, by rw [← HS.out]; exact HO.out, hb⟩
              case measure => simp [intOf]; omega
        · obtain rfl : b = W.length := by omega
          have HS := Lib.hid (stT_b W a)
          go_wp2
          go_roundw
          case rel => exact ⟨a + 1, B, d, n, by omega, by go_num, rfl, by rw [← HS.out]; exact HN, hn, by rw [← HS.out]; exact HO.out, hb⟩
          case measure => simp [intOf]; omega
    · obtain rfl : a = W.length := by omega
      have HS := Lib.hid (stT_end W)
      go_wp2
      go_ret
      exact ⟨B, d, ret_slice (by rw [← HS.out]; exact HN.out), by rw [← HS.out]; exact HO.out.mono hbw.size (Nat.le_refl _), below_trans hbw hb⟩
theorem heldB {w1 wr : World} {m b : Nat} {v0 v1 : Value} (k0 : w1.cell? ⟨b, 0, none⟩ = some v0) (k1 : w1.cell? ⟨b, 1, none⟩ = some v1) (hb : Below m w1 wr) (hm : b < m) :
    wr.cell? ⟨b, 0, none⟩ = some v0 ∧ wr.cell? ⟨b, 1, none⟩ = some v1 := ⟨(hb.cell (p := ⟨b, 0, none⟩) hm).trans k0, (hb.cell (p := ⟨b, 1, none⟩) hm).trans k1⟩
theorem belowB {w1 wr v : World} {m : Nat} (hb : Below m w1 wr) (hm : m ≤ w1.heap.size) (hv : Below wr.heap.size wr v) : Below m w1 v := hb.trans (hv.mono (Nat.le_trans hm hb.size))
theorem rowB {w1 wr : World} {m : Nat} {A : Option Addr} {vs : List Value} (h : Row w1 m A vs) (hb : Below m w1 wr) (hm : m ≤ w1.heap.size) : Row wr wr.heap.size A vs := (h.below hb (Nat.le_refl _)).mono (Nat.le_trans hm hb.size)
set_option maxHeartbeats 1600000 in
theorem l04All_any (A : Option Addr) (c : Nat) (W : List Nat) (w : World) (hT : IsT W) (h : Row w w.heap.size A (ints (casts W))) :
    Calls Tryd.prog 35 #[.agg #[.int .i64 (W.length : Int), .slice A W.length c]] w (NewTable w (triRows W)) := by
  have g1 := hT.h1
  have g8 := hT.h8
  go_enter Tryd.func35, Tryd.ntmps35
  go_wp2
  obtain ⟨w1, hw1⟩ : ∃ w1, w1 = (w.alloc (.cells #[.int .i64 (W.length : Int), .slice A W.length c] 24)).alloc (.cells #[] 22) := ⟨_, rfl⟩
  rw [← hw1]
  have k0 : w1.cell? ⟨w.heap.size, 0, none⟩ = some (.int .i64 (W.length : Int)) := by rw [hw1]; go_simp
  have k1 : w1.cell? ⟨w.heap.size, 1, none⟩ = some (.slice A W.length c) := by rw [hw1]; go_simp
  have hbw : Below w.heap.size w w1 := by rw [hw1]; go_grown
  have hst : OwnT w1 (w.heap.size + 1) w1.heap.size (some ⟨w.heap.size + 1, 0, none⟩) 0 (stT W 0 0 0) := by
    refine OwnT.empty ?_
    have hm := Own.made (w.alloc (.cells #[.int .i64 (W.length : Int), .slice A W.length c] 24)) (w.heap.size + 1) 22 #[] (by simp) (by simp)
    rw [World.size_alloc] at hm
    rw [hw1]
    exact hm.mono (Nat.le_refl _) (by simp)
  have hm1 : w.heap.size + 1 ≤ w1.heap.size := by rw [hw1]; simp
  have h := (h.below hbw (Nat.le_refl _)).mono (Nat.le_succ w.heap.size)
  have HST := Lib.hid hst
  clear hw1 hst
  go_loopw [3, 4] (fun v i wr => ∃ (a : Nat) (B : Option Addr) (d n : Nat), a ≤ W.length ∧ i = .int .i64 a ∧ v = .slice B n d ∧ Hid (n = (stT W a 0 0).length) ∧ n ≤ 1000 ∧ OwnT wr (w.heap.size + 1) wr.heap.size B d (stT W a 0 0) ∧ Below (w.heap.size + 1) w1 wr) (fun _ i _ => W.length - (intOf i).toNat)
  case atStart => exact ⟨0, _, 0, 0, Nat.zero_le _, rfl, rfl, Lib.hid rfl, by omega, HST.out, Below.refl _ _⟩
  case round =>
    clear HST
    obtain ⟨a, B, d, n, ha, rfl, rfl, HN, hn, ho, hb⟩ := hrel
    have HO := Lib.hid ho
    clear ho
    obtain ⟨c0, c1⟩ := heldB k0 k1 hb (Nat.lt_succ_self _)
    by_cases hlt : a < W.length
    · have HSB := Lib.hid (stT_skipB W a (a + 1) (Nat.le_refl _))
      go_wp2
      go_loopw [3, 5] (fun v i wr => ∃ (b : Nat) (B : Option Addr) (d n : Nat), a < b ∧ b ≤ W.length ∧ i = .int .i64 b ∧ v = .slice B n d ∧ Hid (n = (stT W a b 0).length) ∧ n ≤ 1000 ∧ OwnT wr (w.heap.size + 1) wr.heap.size B d (stT W a b 0) ∧ Below (w.heap.size + 1) w1 wr) (fun _ i _ => W.length - (intOf i).toNat)
      case atStart => exact ⟨a + 1, B, d, n, by omega, by omega, by go_num, rfl, by rw [HSB.out]; exact HN, hn, by rw [HSB.out]; exact HO.out, hb⟩
      case round =>
        clear hb c0 c1 HO HN hn HSB
        obtain ⟨b, B, d, n, hab, hbl, rfl, rfl, HN, hn, ho, hb⟩ := hrel
        have HO := Lib.hid ho
        clear ho
        obtain ⟨c0, c1⟩ := heldB k0 k1 hb (Nat.lt_succ_self _)
        by_cases hltb : b < W.length
        · have HSC := Lib.hid (stT_skipC W a b (a + 1) (Nat.le_refl _))
          go_wp2
          go_loopw [3, 6] (fun v i wr => ∃ (x : Nat) (B : Option Addr) (d n : Nat), a < x ∧ x ≤ W.length ∧ i = .int .i64 x ∧ v = .slice B n d ∧ Hid (n = (stT W a b x).length) ∧ n ≤ 1000 ∧ OwnT wr (w.heap.size + 1) wr.heap.size B d (stT W a b x) ∧ Below (w.heap.size + 1) w1 wr) (fun _ i _ => W.length - (intOf i).toNat)
          case atStart => exact ⟨a + 1, B, d, n, by omega, by omega, by go_num, rfl, by rw [HSC.out]; exact HN, hn, by rw [HSC.out]; exact HO.out, hb⟩
          case round =>
           clear hb c0 c1 HO HN hn HSC
           obtain ⟨x, B, d, n, hax, hxl, rfl, rfl, HN, hn, ho, hb⟩ := hrel
           have HO := Lib.hid ho
           clear ho
           obtain ⟨c0, c1⟩ := heldB k0 k1 hb (Nat.lt_succ_self _)
           by_cases hltx : x < W.length
           · skip
             by_cases hxb : x = b
             · have HS := Lib.hid (stT_miss W a b x (by unfold triN; rw [hxb, hT.self]; simp))
               have e1 : ((x : Int) != (b : Int)) = false := by simp [hxb]
               clear hxb
               go_wp2
               go_roundw
               case rel => exact ⟨x + 1, B, d, n, by omega, by omega, by go_num, rfl, by rw [HS.out]; exact HN, hn, by rw [HS.out]; exact HO.out, hb⟩
               case measure => simp [intOf]; omega
             · have e1 : ((x : Int) != (b : Int)) = true := by simp; omega
               have ht0 : triN W a b x = (bt W a b && bt W b x && bt W x a) := by unfold triN; rw [decide_eq_true hab, decide_eq_true hax]; rfl
               cases n1 : bt W a b with
               | false =>
                 have htr : triN W a b x = false := by rw [ht0, n1]; rfl
                 have HS := Lib.hid (stT_miss W a b x htr)
                 have M1 := Lib.hid n1
                 clear htr ht0 n1
                 go_wp2_with fail
                 refine (l02BeatsW_any A c W a b false M1.out _ hT (rowB h hb hm1) hlt hltb).mono ?_
                 rintro e v1 ⟨rfl, hq⟩
                 have hv1 := hq
                 obtain ⟨c0, c1⟩ := heldB k0 k1 (belowB hb hm1 hv1) (Nat.lt_succ_self _)
                 go_wp2
                 go_roundw
                 case rel => exact ⟨x + 1, B, d, n, by omega, by omega, by go_num, rfl, by rw [HS.out]; exact HN, hn, by rw [HS.out]; exact (HO.out.below hv1 (Nat.le_refl _)).mono (Nat.le_refl _) hv1.size, belowB hb hm1 hv1⟩
                 case measure => simp [intOf]; omega
               | true =>
                 cases n2 : bt W b x with
                 | false =>
                   have htr : triN W a b x = false := by rw [ht0, n1, n2]; rfl
                   have HS := Lib.hid (stT_miss W a b x htr)
                   have M1 := Lib.hid n1
                   have M2 := Lib.hid n2
                   clear htr ht0 n1 n2
                   go_wp2_with fail
                   refine (l02BeatsW_any A c W a b true M1.out _ hT (rowB h hb hm1) hlt hltb).mono ?_
                   rintro e v1 ⟨rfl, hq⟩
                   have hv1 := hq
                   obtain ⟨c0, c1⟩ := heldB k0 k1 (belowB hb hm1 hv1) (Nat.lt_succ_self _)
                   go_wp2_with fail
                   refine (l02BeatsW_any A c W b x false M2.out _ hT (rowB h (belowB hb hm1 hv1) hm1) hltb hltx).mono ?_
                   rintro e v2 ⟨rfl, hq⟩
                   have hv2 := below_trans hv1 hq
                   obtain ⟨c0, c1⟩ := heldB k0 k1 (belowB hb hm1 hv2) (Nat.lt_succ_self _)
                   go_wp2
                   go_roundw
                   case rel => exact ⟨x + 1, B, d, n, by omega, by omega, by go_num, rfl, by rw [HS.out]; exact HN, hn, by rw [HS.out]; exact (HO.out.below hv2 (Nat.le_refl _)).mono (Nat.le_refl _) hv2.size, belowB hb hm1 hv2⟩
                   case measure => simp [intOf]; omega
                 | true =>
                   cases n3 : bt W x a with
                   | false =>
                     have htr : triN W a b x = false := by rw [ht0, n1, n2, n3]; rfl
                     have HS := Lib.hid (stT_miss W a b x htr)
                     have M1 := Lib.hid n1
                     have M2 := Lib.hid n2
                     have M3 := Lib.hid n3
                     clear htr ht0 n1 n2 n3
                     go_wp2_with fail
                     refine (l02BeatsW_any A c W a b true M1.out _ hT (rowB h hb hm1) hlt hltb).mono ?_
                     rintro e v1 ⟨rfl, hq⟩
                     have hv1 := hq
                     obtain ⟨c0, c1⟩ := heldB k0 k1 (belowB hb hm1 hv1) (Nat.lt_succ_self _)
                     go_wp2_with fail
                     refine (l02BeatsW_any A c W b x true M2.out _ hT (rowB h (belowB hb hm1 hv1) hm1) hltb hltx).mono ?_
                     rintro e v2 ⟨rfl, hq⟩
                     have hv2 := below_trans hv1 hq
                     obtain ⟨c0, c1⟩ := heldB k0 k1 (belowB hb hm1 hv2) (Nat.lt_succ_self _)
                     go_wp2_with fail
                     refine (l02BeatsW_any A c W x a false M3.out _ hT (rowB h (belowB hb hm1 hv2) hm1) hltx hlt).mono ?_
                     rintro e v3 ⟨rfl, hq⟩
                     have hv3 := below_trans hv2 hq
                     obtain ⟨c0, c1⟩ := heldB k0 k1 (belowB hb hm1 hv3) (Nat.lt_succ_self _)
                     go_wp2
                     go_roundw
                     case rel => exact ⟨x + 1, B, d, n, by omega, by omega, by go_num, rfl, by rw [HS.out]; exact HN, hn, by rw [HS.out]; exact (HO.out.below hv3 (Nat.le_refl _)).mono (Nat.le_refl _) hv3.size, belowB hb hm1 hv3⟩
                     case measure => simp [intOf]; omega
                   | true =>
                     have htr : triN W a b x = true := by rw [ht0, n1, n2, n3]; rfl
                     have HS := Lib.hid (stT_hit W a b x htr)
                     have M1 := Lib.hid n1
                     have M2 := Lib.hid n2
                     have M3 := Lib.hid n3
                     clear htr ht0 n1 n2 n3
                     go_wp2_with fail
                     refine (l02BeatsW_any A c W a b true M1.out _ hT (rowB h hb hm1) hlt hltb).mono ?_
                     rintro e v1 ⟨rfl, hq⟩
                     have hv1 := hq
                     obtain ⟨c0, c1⟩ := heldB k0 k1 (belowB hb hm1 hv1) (Nat.lt_succ_self _)
                     go_wp2_with fail
                     refine (l02BeatsW_any A c W b x true M2.out _ hT (rowB h (belowB hb hm1 hv1) hm1) hltb hltx).mono ?_
                     rintro e v2 ⟨rfl, hq⟩
                     have hv2 := below_trans hv1 hq
                     obtain ⟨c0, c1⟩ := heldB k0 k1 (belowB hb hm1 hv2) (Nat.lt_succ_self _)
                     go_wp2_with fail
                     refine (l02BeatsW_any A c W x a true M3.out _ hT (rowB h (belowB hb hm1 hv2) hm1) hltx hlt).mono ?_
                     rintro e v3 ⟨rfl, hq⟩
                     have hv3 := below_trans hv2 hq
                     obtain ⟨c0, c1⟩ := heldB k0 k1 (belowB hb hm1 hv3) (Nat.lt_succ_self _)
                     have hO4 := Lib.hid ((HO.out.below hv3 (Nat.le_refl _)))
                     have hz3 := hv3.size
                     have hz1 := hb.size
                     have hle := stT_le W g8 a b (x + 1) (by omega) (by omega) (by omega)
                     have hle2 : n + 1 ≤ 1000 := by rw [HS.out, List.length_append, ← HN.out] at hle; exact hle
                     clear hle
                     go_wp2_with (at_builtin; refine wpList_pushT rfl (.tmp 51) (.tmp 56) rfl (w.heap.size + 1) wr.heap.size (v3.heap.size + 1) B d n (stT W a b x) (tri3 a b x) v3.heap.size 3 (v3.heap.size + 1) 3 rfl rfl HN.out ?c5 ?c6 rfl ?c7 ?c8 ?c9 ?c0 (by omega) ?c1 ?_)
                     case c5 => exact (hO4.out.alloc (by omega) _).alloc (by simp; omega) _
                     case c6 =>
                       have hm := Own.made v3 (w.heap.size + 1) 3 #[.int .i64 (a : Int), .int .i64 (b : Int), .int .i64 (x : Int)] (by omega) (by simp [maxLen])
                       exact (hm.alloc (by simp) _)
                     case c7 => omega
                     case c8 => simp
                     case c9 => simp; omega
                     case c0 => go_simp
                     case c1 => simp; omega
                     intro A' c' w4 ho4 hg4
                     have HO4 := Lib.hid ho4
                     clear ho4
                     go_wp2
                     go_roundw
                     case rel => exact ⟨x + 1, A', c', n + 1, by omega, by omega, by go_num, rfl, Lib.hid (by rw [HS.out, List.length_append, HN.out]; rfl), hle2, by rw [HS.out]; exact HO4.out, ((((belowB hb hm1 hv3).alloc (by omega) _).alloc (by simp; omega) _).trans (hg4.below (Nat.le_refl _) (by simp; omega)))⟩
                     case measure => simp [intOf]; omega
           · obtain rfl : x = W.length := by omega
             have HS := Lib.hid (stT_c W a b)
             go_wp2
             go_roundw
             case rel => exact ⟨b + 1, B, d, n, by omega, by omega, by go_num, rfl, by rw [← HS.out]; exact HN, hn, by rw [← HS.out]; exact HO.out, hb⟩
             case measure => simp [intOf]; omega
        · obtain rfl : b = W.length := by omega
          have HS := Lib.hid (stT_b W a)
          go_wp2
          go_roundw
          case rel => exact ⟨a + 1, B, d, n, by omega, by go_num, rfl, by rw [← HS.out]; exact HN, hn, by rw [← HS.out]; exact HO.out, hb⟩
          case measure => simp [intOf]; omega
    · obtain rfl : a = W.length := by omega
      have HS := Lib.hid (stT_end W)
      go_wp2
      go_ret
      exact ⟨B, d, ret_slice (by rw [← HS.out]; exact HN.out), by rw [← HS.out]; exact HO.out.mono (Nat.le_succ _) (Nat.le_refl _), hbw.trans (hb.mono (Nat.le_succ _))⟩

/-- What both functions TrianglesOf answer. -/
def rTrianglesOf (s : Int) (zs : List Int) : List (List Int) := if okB s zs then triRows (toW zs) else []
theorem rTrianglesOf_len (s : Int) (zs : List Int) : (rTrianglesOf s zs).length ≤ 1000 ∧ (∀ r ∈ rTrianglesOf s zs, r.length ≤ 1099511627776) ∧ total (rTrianglesOf s zs) ≤ 1000000 := by
  unfold rTrianglesOf
  split
  · rename_i h
    obtain ⟨W, rfl, rfl, hT⟩ := ok_tour h
    rw [toW_casts]
    have h1 := triRows_le W hT.h8
    have h2 := total_le3 (triRows W) 3 (triRows_len3 W)
    exact ⟨h1, fun r hr => Nat.le_trans (triRows_len3 W r hr) (by omega), by omega⟩
  · simp [total]
end Go.Proofs.YtaocjjocncoahaaDoor
