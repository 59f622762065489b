/- Scores: score, l02Scores, and the functions on them: SumOfSquares, CountTriangles, SovereignOf, ScoresOf. -/
import Derived.Test.YtaocjjocncoahaaDoorTri
import Derived.Test.YtaocjjocncoahaaDoorOnes
import Derived.Test.YtaocjjocncoahaaDoorChoose
namespace Go.Proofs.YtaocjjocncoahaaDoor
open Go.RowKit

/-- The score of a player. -/
def sc (W : List Nat) (a : Nat) : Nat := pc 8 (W.getD a 0)
/-- All scores. -/
def scL (W : List Nat) : List Nat := W.map (pc 8)
theorem scL_length (W : List Nat) : (scL W).length = W.length := by simp [scL]
theorem scL_get (W : List Nat) (a : Nat) (h : a < (scL W).length) : (scL W)[a] = sc W a := by
  rw [scL_length] at h
  unfold sc
  rw [getD_lt _ _ _ h]
  simp [scL]
theorem sc_of (W : List Nat) {a : Nat} (h : a < W.length) : sc W a = pc 8 W[a] := by unfold sc; rw [getD_lt _ _ _ h]
theorem sc_le (W : List Nat) (a : Nat) : sc W a ≤ 8 := pc_le 8 _
theorem scL_take (W : List Nat) (k : Nat) (h : k < W.length) : (scL W).take (k + 1) = (scL W).take k ++ [sc W k] := by
  rw [List.take_succ_eq_append_getElem (by rwa [scL_length]), scL_get]
/-- The sum of the first k numbers. -/
def sumF (f : Nat → Int) : Nat → Int
  | 0 => 0
  | k + 1 => sumF f k + f k
theorem sumF_bd (f : Nat → Int) (m : Int) (h : ∀ i, 0 ≤ f i ∧ f i ≤ m) (k : Nat) : 0 ≤ sumF f k ∧ sumF f k ≤ m * (k : Int) := by
  induction k with
  | zero => simp [sumF]
  | succ k ih =>
    have := h k
    have e : m * ((k + 1 : Nat) : Int) = m * (k : Int) + m := by rw [Int.natCast_add, Int.mul_add]; simp
    unfold sumF
    rw [e]
    omega

theorem score_any (A : Option Addr) (c : Nat) (W : List Nat) (a : Nat) (w : World) (hT : IsT W) (h : Row w w.heap.size A (ints (casts W))) (ha : a < W.length) :
    Calls Tryd.prog 61 #[.agg #[.int .i64 (W.length : Int), .slice A W.length c], .int .i64 (a : Int)] w fun e w' => e = .returned (.int .i64 (sc W a : Nat)) ∧ Below w.heap.size w w' := by
  obtain ⟨b, off, rfl, _, hc⟩ := h.nat ha
  have hx := hT.lt256' ha
  have E := Lib.hid (sc_of W ha)
  generalize W[a] = x at *
  clear h hT
  go_enter Tryd.func61, Tryd.ntmps61
  go_wp2_with (go_at_call 75; refine (onesCount_any (x : Int) _ (by omega) (by omega)).mono ?_; rw [Int.toNat_natCast]; rintro e w' ⟨rfl, rfl⟩)
  go_ret
  exact ⟨ret_int (by rw [E.out]), by go_grown⟩

/-- A box and what lies below it, over a further call. -/
theorem held_next {w1 wr wq : World} {b : Nat} {v0 v1 : Value} (k0 : w1.cell? ⟨b, 0, none⟩ = some v0) (k1 : w1.cell? ⟨b, 1, none⟩ = some v1) (hb : Below w1.heap.size w1 wr) (hq : Below wr.heap.size wr wq) :
    Below w1.heap.size w1 wq ∧ wq.cell? ⟨b, 0, none⟩ = some v0 ∧ wq.cell? ⟨b, 1, none⟩ = some v1 := by
  have hn := below_trans hb hq
  have hl := World.block_lt_of_cell? w1 _ k0
  exact ⟨hn, (hn.cell (p := ⟨b, 0, none⟩) hl).trans k0, (hn.cell (p := ⟨b, 1, none⟩) hl).trans k1⟩
theorem held_at {w1 wr : World} {b : Nat} {v0 v1 : Value} (k0 : w1.cell? ⟨b, 0, none⟩ = some v0) (k1 : w1.cell? ⟨b, 1, none⟩ = some v1) (hb : Below w1.heap.size w1 wr) :
    wr.cell? ⟨b, 0, none⟩ = some v0 ∧ wr.cell? ⟨b, 1, none⟩ = some v1 := by
  have hl := World.block_lt_of_cell? w1 _ k0
  exact ⟨(hb.cell (p := ⟨b, 0, none⟩) hl).trans k0, (hb.cell (p := ⟨b, 1, none⟩) hl).trans k1⟩

theorem l02Scores_any (A : Option Addr) (c : Nat) (W : List Nat) (w : World) (hT : IsT W) (h : Row w w.heap.size A (ints (casts W))) :
    Calls Tryd.prog 48 #[.agg #[.int .i64 (W.length : Int), .slice A W.length c]] w (NewInts w 3 (casts (scL W))) := by
  have g8 := hT.h8
  go_enter Tryd.func48, Tryd.ntmps48
  go_wp2
  obtain ⟨w1, hw1⟩ : ∃ w1, w1 = (w.alloc (.cells #[.int .i64 (W.length : Int), .slice A W.length c] 24)).alloc (.cells #[] 3) := ⟨_, rfl⟩
  rw [← hw1]
  have hbw : Below w.heap.size w w1 := by rw [hw1]; go_grown
  have ho1 : Own w1 w.heap.size w1.heap.size 3 (some ⟨w.heap.size + 1, 0, none⟩) 0 (ints (casts ((scL W).take 0))) := by
    rw [hw1]
    have hm := Own.made (w.alloc (.cells #[.int .i64 (W.length : Int), .slice A W.length c] 24)) w.heap.size 3 #[] (by simp) (by simp)
    rw [World.size_alloc] at hm
    exact hm.mono (Nat.le_refl _) (by simp)
  clear hw1
  go_loopw [3, 10] (fun v i wr => ∃ (k : Nat) (B : Option Addr) (d : Nat), k ≤ W.length ∧ i = .int .i64 k ∧ v = .slice B k d ∧ Own wr w.heap.size wr.heap.size 3 B d (ints (casts ((scL W).take k))) ∧ Below w.heap.size w wr) (fun _ i _ => W.length - (intOf i).toNat)
  case atStart => exact ⟨0, _, 0, Nat.zero_le _, rfl, rfl, ho1, hbw⟩
  case round =>
    obtain ⟨k, B, d, hk, rfl, rfl, ho, hb⟩ := hrel
    have HO := Lib.hid ho
    clear ho ho1
    by_cases hlt : k < W.length
    · obtain ⟨b, off, rfl, _, hc⟩ := (h.below hb (Nat.le_refl _)).nat hlt
      have hx := hT.lt256' hlt
      have E := Lib.hid (sc_of W hlt)
      have HS := Lib.hid (scL_take W k hlt)
      generalize W[k] = x at *
      have hsz := hb.size
      clear h
      go_wp2_with (first
        | (go_at_call 60; refine (l02Bits_any (x : Int) _ (by omega) (by omega)).mono ?_; rw [Int.toNat_natCast, ← E.out]; rintro e w' ⟨rfl, rfl⟩)
        | (at_builtin; refine wpList_push rfl (.tmp 14) (.tmp 17) rfl w.heap.size wr.heap.size B d k (casts ((scL W).take k)) (sc W k : Nat) wr.heap.size rfl rfl ?c0 ?c1 ?c2 ?c3 ?c4 ?_))
      case c0 => rw [casts_length, List.length_take, scL_length]; omega
      case c1 => exact HO.out.alloc (Nat.le_refl _) _
      case c2 => go_simp
      case c3 => omega
      case c4 => simp; omega
      intro A' c' w2 ho1 hg1
      have HO1 := Lib.hid ho1
      clear ho1
      go_wp2
      go_roundw
      case rel => exact ⟨k + 1, A', c', by omega, by go_num, rfl, by rw [HS.out, casts_append]; exact HO1.out, below_only (hb.alloc hsz _) hg1 (Nat.le_refl _) (by simp; omega)⟩
      case measure => simp [intOf]; omega
    · obtain rfl : k = W.length := by omega
      go_wp2
      go_ret
      exact ⟨B, d, ret_slice (by rw [casts_length, scL_length]), by have := HO.out; rwa [List.take_of_length_le (by rw [scL_length]; omega)] at this, hb⟩

/-- What both functions SumOfSquares answer. -/
def sqs (W : List Nat) (k : Nat) : Int := sumF (fun a => (sc W a : Int) * (sc W a : Int)) k
theorem sqs_bd (W : List Nat) (k : Nat) : 0 ≤ sqs W k ∧ sqs W k ≤ 64 * (k : Int) := by
  refine sumF_bd _ 64 (fun i => ?_) k
  have h := sc_le W i
  have e : (sc W i : Int) * (sc W i : Int) = ((sc W i * sc W i : Nat) : Int) := by simp
  have := Nat.mul_le_mul h h
  rw [e]
  omega
def rSumOfSquares (s : Int) (zs : List Int) : Int := if okB s zs then sqs (toW zs) (toW zs).length else -1

/-- What both functions CountTriangles answer. -/
def tris (W : List Nat) (k : Nat) : Int := sumF (fun a => (choose2 (sc W a) : Nat)) k
theorem tris_bd (W : List Nat) (k : Nat) : 0 ≤ tris W k ∧ tris W k ≤ 28 * (k : Int) := by
  refine sumF_bd _ 28 (fun i => ?_) k
  have := choose2_le (sc W i) (sc_le W i)
  omega
def rCountTriangles (s : Int) (zs : List Int) : Int := if okB s zs then (choose3 (toW zs).length : Nat) - tris (toW zs) (toW zs).length else -1

theorem ch3_steps (n : Nat) (h1 : 1 ≤ n) (h8 : n ≤ 8) : IntKind.i64.wrap ((n : Int) * ((n : Int) - 1)) = (n : Int) * ((n : Int) - 1) ∧ IntKind.i64.wrap ((n : Int) * ((n : Int) - 1) * ((n : Int) - 2)) = (n : Int) * ((n : Int) - 1) * ((n : Int) - 2) ∧ 0 ≤ (n : Int) * ((n : Int) - 1) * ((n : Int) - 2) ∧ (n : Int) * ((n : Int) - 1) * ((n : Int) - 2) / 6 = (choose3 n : Nat) := by
  have h : n = 1 ∨ n = 2 ∨ n = 3 ∨ n = 4 ∨ n = 5 ∨ n = 6 ∨ n = 7 ∨ n = 8 := by omega
  rcases h with rfl | rfl | rfl | rfl | rfl | rfl | rfl | rfl <;> decide
theorem ch2_steps (n : Nat) (h8 : n ≤ 8) : IntKind.i64.wrap ((n : Int) * ((n : Int) - 1)) = (n : Int) * ((n : Int) - 1) ∧ 0 ≤ (n : Int) * ((n : Int) - 1) ∧ (n : Int) * ((n : Int) - 1) / 2 = (choose2 n : Nat) := by
  have h : n = 0 ∨ n = 1 ∨ n = 2 ∨ n = 3 ∨ n = 4 ∨ n = 5 ∨ n = 6 ∨ n = 7 ∨ n = 8 := by omega
  rcases h with rfl | rfl | rfl | rfl | rfl | rfl | rfl | rfl | rfl <;> decide

/-- What both functions ScoresOf answer. -/
def rScoresOf (s : Int) (zs : List Int) : List Int := if okB s zs then casts (scL (toW zs)) else []
theorem rScoresOf_len (s : Int) (zs : List Int) : (rScoresOf s zs).length ≤ 1099511627776 := by
  unfold rScoresOf
  split
  · rename_i h
    obtain ⟨W, rfl, rfl, hT⟩ := ok_tour h
    have := hT.h8
    rw [casts_length, toW_casts, scL_length]
    omega
  · simp
theorem newInts_none {w w' : World} (t : TypeId) {zs : List Int} (e : zs = []) (h : Below w.heap.size w w') : NewInts w t zs (.returned (.slice none 0 0)) w' := by
  subst e
  exact ⟨none, 0, rfl, Own.nil _ _ _ _, h⟩
theorem iScoresOf_any (A : Option Addr) (c : Nat) (s : Int) (zs : List Int) (w : World) (h : Row w w.heap.size A (ints zs)) (hl : zs.length ≤ 1099511627776) :
    Calls Tryd.prog 51 #[.agg #[.int .i64 s, .slice A zs.length c]] w (NewInts w 3 (rScoresOf s zs)) := by
  cases ho : okB s zs with
  | false =>
    have N : Hid (rScoresOf s zs = []) := Lib.hid (by unfold rScoresOf; rw [ho]; rfl)
    have HO := Lib.hid ho
    clear ho
    go_enter Tryd.func51, Tryd.ntmps51
    go_wp2_with fail
    refine (iTourOk_any A c s zs _ (h.rowAt (by go_grown) (Nat.le_refl _)) hl).mono ?_
    rw [HO.out]
    rintro e w1 ⟨rfl, hb⟩
    obtain ⟨k0, k1, hbw, hsz⟩ := box1 hb
    clear hb
    go_wp2
    go_ret
    exact newInts_none _ N.out hbw
  | true =>
    obtain ⟨W, rfl, rfl, hT⟩ := ok_tour ho
    have R : Hid (rScoresOf (W.length : Int) (casts W) = (casts (scL W))) := Lib.hid (by unfold rScoresOf; rw [ho, toW_casts]; rfl)
    have g1 := hT.h1
    have g8 := hT.h8
    rw [casts_length]
    rw [R.out]
    clear R
    clear ho hl
    go_enter Tryd.func51, Tryd.ntmps51
    go_wp2_with fail
    refine (iTourOkW A c W _ hT (h.rowAt (by go_grown) (Nat.le_refl _))).mono ?_
    rintro e w1 ⟨rfl, hb⟩
    obtain ⟨k0, k1, hbw, hsz⟩ := box1 hb
    have h := h.rowAt hbw (Nat.le_refl _)
    clear hb
    go_wp2
    go_loopw [3, 10] (fun v i wr => ∃ (k : Nat) (B : Option Addr) (d : Nat), k ≤ W.length ∧ i = .int .i64 k ∧ v = .slice B k d ∧ Own wr w1.heap.size wr.heap.size 3 B d (ints (casts ((scL W).take k))) ∧ Below w1.heap.size w1 wr) (fun _ i _ => W.length - (intOf i).toNat)
    case atStart => exact ⟨0, none, 0, Nat.zero_le _, rfl, rfl, Own.nil _ _ _ _, Below.refl _ _⟩
    case round =>
      obtain ⟨k, B, d, hk, rfl, rfl, ho, hb⟩ := hrel
      have HO := Lib.hid ho
      clear ho
      obtain ⟨c0, c1⟩ := held_at k0 k1 hb
      by_cases hlt : k < W.length
      · have HS := Lib.hid (scL_take W k hlt)
        have HC := Lib.hid (score_any A c W k wr hT (h.rowAt hb (Nat.le_refl _)) hlt)
        go_wp2_with fail
        refine HC.out.mono ?_
        rintro e wq ⟨rfl, hbq⟩
        have hsz := below_trans hb hbq
        have HO2 := Lib.hid ((HO.out.below hbq (Nat.le_refl _)).mono (Nat.le_refl _) hbq.size)
        go_wp2_with (at_builtin; refine wpList_push rfl (.tmp 13) (.tmp 17) rfl w1.heap.size wq.heap.size B d k (casts ((scL W).take k)) (sc W k : Nat) wq.heap.size rfl rfl ?c0 ?c1 ?c2 ?c3 ?c4 ?_)
        case c0 => rw [casts_length, List.length_take, scL_length]; omega
        case c1 => exact HO2.out.alloc (Nat.le_refl _) _
        case c2 => go_simp
        case c3 => omega
        case c4 => have := hsz.size; simp; omega
        intro A' c' w2 ho1 hg1
        have HO1 := Lib.hid ho1
        clear ho1
        go_wp2
        go_roundw
        case rel => exact ⟨k + 1, A', c', by omega, by go_num, rfl, by rw [HS.out, casts_append]; exact HO1.out, below_only (hsz.alloc hsz.size _) hg1 (Nat.le_refl _) (by have := hsz.size; simp; omega)⟩
        case measure => simp [intOf]; omega
      · obtain rfl : k = W.length := by omega
        go_wp2
        go_ret
        exact ⟨B, d, ret_slice (by rw [casts_length, scL_length]), by have := HO.out.mono hbw.size (Nat.le_refl _); rwa [List.take_of_length_le (by rw [scL_length]; omega)] at this, below_trans hbw hb⟩
theorem idxOf_same (p q : Int → Bool) (xs ys : List Int) (hl : xs.length = ys.length) (h : ∀ i (h1 : i < xs.length) (h2 : i < ys.length), p xs[i] = q ys[i]) : idxOf p xs = idxOf q ys := by
  by_cases hx : ∃ k, ∃ hk : k < ys.length, q ys[k] = true ∧ ∀ j (hj : j < k), q ys[j] = false
  · obtain ⟨k, hk, h1, h2⟩ := hx
    rw [idxOf_hit q ys k hk h1 h2]
    exact idxOf_hit p xs k (by omega) (by rw [h k (by omega) hk]; exact h1) (fun j hj => by rw [h j (by omega) (by omega)]; exact h2 j hj)
  · have hn : ∀ j (hj : j < ys.length), q ys[j] = false := by
      intro j
      induction j using Nat.strongRecOn with
      | _ j ih =>
        intro hj
        cases hq : q ys[j] with
        | false => rfl
        | true => exact absurd ⟨j, hj, hq, fun i hi => ih i hi (by omega)⟩ hx
    rw [idxOf_miss q ys hn]
    exact idxOf_miss p xs (fun j hj => by rw [h j hj (by omega)]; exact hn j (by omega))
/-- What both functions SovereignOf answer. -/
def sovOf (W : List Nat) : Int := idxOf (fun x => x == (W.length : Int) - 1) (casts (scL W))
def rSovereignOf (s : Int) (zs : List Int) : Int := if okB s zs then sovOf (toW zs) else -1
end Go.Proofs.YtaocjjocncoahaaDoor
