/- Games against an order: backGames, l08Count, CountReversals, walked. -/
import Derived.Test.YtfjofnmdmdejpaaOrd
import Derived.Test.YtfjofnmdmdejpaaScore
import Derived.Test.YtfjofnmdmdejpaaTables
import Derived.Test.YtfjofnmdmdejpaaTriang
namespace Go.Proofs.Ytfjofnmdmdejpaa
open Go.RowKit

/-! ### Rows of pairs -/
def pair2 (a b : Nat) : List Int := [(a : Int), b]
def prC (f : Nat → Nat → Bool) (a k : Nat) : List (List Int) := ((List.range k).filter (f a)).map (pair2 a)
def prA (n : Nat) (f : Nat → Nat → Bool) (k : Nat) : List (List Int) := (List.range k).flatMap fun a => prC f a n
/-- What has been found when a, b are next. -/
def stP (n : Nat) (f : Nat → Nat → Bool) (a b : Nat) : List (List Int) := prA n f a ++ prC f a b
/-- All pairs with f, in lexicographic order. -/
def prRows (n : Nat) (f : Nat → Nat → Bool) : List (List Int) := prA n f n
theorem prC_zero (f : Nat → Nat → Bool) (a : Nat) : prC f a 0 = [] := rfl
theorem stP_zero (n : Nat) (f : Nat → Nat → Bool) : stP n f 0 0 = [] := rfl
theorem stP_hit (n : Nat) (f : Nat → Nat → Bool) (a b : Nat) (h : f a b = true) : stP n f a (b + 1) = stP n f a b ++ [pair2 a b] := by
  simp [stP, prC, List.range_succ, List.filter_append, h]
theorem stP_miss (n : Nat) (f : Nat → Nat → Bool) (a b : Nat) (h : f a b = false) : stP n f a (b + 1) = stP n f a b := by
  simp [stP, prC, List.range_succ, List.filter_append, h]
theorem stP_b (n : Nat) (f : Nat → Nat → Bool) (a : Nat) : stP n f a n = stP n f (a + 1) 0 := by
  unfold stP
  rw [prC_zero, List.append_nil]
  simp [prA, List.range_succ]
theorem stP_end (n : Nat) (f : Nat → Nat → Bool) : stP n f n 0 = prRows n f := by
  unfold stP
  rw [prC_zero, List.append_nil]
  rfl
theorem prC_le (f : Nat → Nat → Bool) (a k : Nat) : (prC f a k).length ≤ k := by
  unfold prC
  rw [List.length_map]
  exact Nat.le_trans (List.length_filter_le _ _) (by simp)
theorem stP_le (n : Nat) (f : Nat → Nat → Bool) (h8 : n ≤ 8) (a b : Nat) (ha : a ≤ n) (hb : b ≤ n) : (stP n f a b).length ≤ 100 := by
  have h1 := prC_le f a b
  have h2 : (prA n f a).length ≤ 8 * a := flat_le (fun i => Nat.le_trans (prC_le f i n) h8) a
  unfold stP
  simp only [List.length_append]
  omega
theorem prRows_le (n : Nat) (f : Nat → Nat → Bool) (h8 : n ≤ 8) : (prRows n f).length ≤ 100 := by
  rw [← stP_end]
  exact stP_le n f h8 _ _ (Nat.le_refl _) (by omega)
theorem prRows_mem (n : Nat) (f : Nat → Nat → Bool) (r : List Int) (h : r ∈ prRows n f) : ∃ a b, a < n ∧ b < n ∧ r = pair2 a b ∧ f a b = true := by
  unfold prRows prA prC at h
  simp only [List.mem_flatMap, List.mem_range, List.mem_map, List.mem_filter] at h
  obtain ⟨a, ha, b, ⟨hb, ht⟩, rfl⟩ := h
  exact ⟨a, b, ha, hb, rfl, ht⟩
theorem prRows_len (n : Nat) (f : Nat → Nat → Bool) (r : List Int) (h : r ∈ prRows n f) : r.length ≤ 2 := by
  obtain ⟨a, b, _, _, rfl, _⟩ := prRows_mem n f r h
  simp [pair2]
theorem prRows_congr (n : Nat) (f g : Nat → Nat → Bool) (h : ∀ a b, a < n → b < n → f a b = g a b) : prRows n f = prRows n g := by
  unfold prRows prA prC
  have : ∀ (l : List Nat), (∀ a ∈ l, a < n) → (l.flatMap fun a => ((List.range n).filter (f a)).map (pair2 a)) = l.flatMap fun a => ((List.range n).filter (g a)).map (pair2 a) := by
    intro l hl
    induction l with
    | nil => rfl
    | cons a l ih =>
      simp only [List.flatMap_cons]
      rw [ih (fun x hx => hl x (by simp [hx])), List.filter_congr (fun b hb => h a b (hl a (by simp)) (by rwa [List.mem_range] at hb))]
  exact this _ (fun a ha => by rwa [List.mem_range] at ha)
/-- How many pairs. -/
theorem prRows_length (n : Nat) (f : Nat → Nat → Bool) : (prRows n f).length = ((List.range n).map fun a => ((List.range n).map fun b => if f a b then 1 else 0).sum).sum := by
  unfold prRows prA
  rw [List.length_flatMap]
  congr 1
  refine List.map_congr_left fun a _ => ?_
  unfold prC
  rw [List.length_map]
  generalize List.range n = l
  induction l with
  | nil => rfl
  | cons b l ih =>
    rw [List.filter_cons]
    simp only [List.map_cons, List.sum_cons, ← ih]
    cases f a b <;> simp
    omega

/-! ### Games against an order -/
def posI (os : List Int) (a : Nat) : Int := idxOf (fun y => (a : Int) == y) os
/-- a beats b, who stands ahead of a. -/
def bkN (W : List Nat) (os : List Int) (a b : Nat) : Bool := bt W a b && decide (posI os b < posI os a)
def backRows (W : List Nat) (os : List Int) : List (List Int) := prRows W.length (bkN W os)

set_option maxHeartbeats 800000 in
theorem backGames_any (A : Option Addr) (c : Nat) (W : List Nat) (A' : Option Addr) (c' : Nat) (os : List Int) (w : World) (hT : IsT W) (h : Row w w.heap.size A (ints (casts W))) (h' : Row w w.heap.size A' (ints os)) (hl' : os.length ≤ 1099511627776) :
    Calls Try.prog 62 #[.agg #[.int .i64 (W.length : Int), .slice A W.length c], .slice A' os.length c'] w (NewTable w (backRows W os)) := by
  have g1 := hT.h1
  have g8 := hT.h8
  go_enter Try.func62, Try.ntmps62
  go_wp2
  obtain ⟨w1, hw1⟩ : ∃ w1, w1 = w.alloc (.cells #[.int .i64 (W.length : Int), .slice A W.length c] 27) := ⟨_, rfl⟩
  rw [← hw1]
  have k0 : w1.cell? ⟨w.heap.size, 0, none⟩ = some (.int .i64 (W.length : Int)) := by rw [hw1]; go_simp
  have k1 : w1.cell? ⟨w.heap.size, 1, none⟩ = some (.slice A W.length c) := by rw [hw1]; go_simp
  have hbw : Below w.heap.size w w1 := by rw [hw1]; go_grown
  have h := h.rowAt hbw (Nat.le_refl _)
  have h' := h'.rowAt hbw (Nat.le_refl _)
  clear hw1
  go_loopw [5, 10] (fun v i wr => ∃ (a : Nat) (B : Option Addr) (d n : Nat), a ≤ W.length ∧ i = .int .i64 a ∧ v = .slice B n d ∧ Hid (n = (stP W.length (bkN W os) a 0).length) ∧ n ≤ 100 ∧ OwnT wr w1.heap.size wr.heap.size B d (stP W.length (bkN W os) a 0) ∧ Below w1.heap.size w1 wr) (fun _ i _ => W.length - (intOf i).toNat)
  case atStart => exact ⟨0, none, 0, 0, Nat.zero_le _, rfl, rfl, Lib.hid rfl, by omega, OwnT.nil _ _ _, Below.refl _ _⟩
  case round =>
    obtain ⟨a, B, d, n, ha, rfl, rfl, HN, hn, ho, hb⟩ := hrel
    have HO := Lib.hid ho
    clear ho
    obtain ⟨c0, c1⟩ := held_at k0 k1 hb
    by_cases hlt : a < W.length
    · go_wp2
      go_loopw [5, 15] (fun v i wr => ∃ (b : Nat) (B : Option Addr) (d n : Nat), b ≤ W.length ∧ i = .int .i64 b ∧ v = .slice B n d ∧ Hid (n = (stP W.length (bkN W os) a b).length) ∧ n ≤ 100 ∧ OwnT wr w1.heap.size wr.heap.size B d (stP W.length (bkN W os) a b) ∧ Below w1.heap.size w1 wr) (fun _ i _ => W.length - (intOf i).toNat)
      case atStart => exact ⟨0, B, d, n, Nat.zero_le _, rfl, rfl, HN, hn, HO.out, hb⟩
      case round =>
        clear hb c0 c1 HO HN hn
        obtain ⟨b, B, d, n, hbl, rfl, rfl, HN, hn, ho, hb⟩ := hrel
        have HO := Lib.hid ho
        clear ho
        obtain ⟨c0, c1⟩ := held_at k0 k1 hb
        by_cases hltb : b < W.length
        · have hr := h.rowAt hb (Nat.le_refl _)
          have hle := stP_le W.length (bkN W os) g8 a (b + 1) (by omega) (by omega)
          have HC := Lib.hid (fun v hv => beatsW_any A c W a b v hv wr hT hr hlt hltb)
          have HI := Lib.hid (fun x W' hr' => index_any A' c' os x W' hr' hl')
          clear hr
          cases n1 : bt W a b with
          | false =>
            have HS := Lib.hid (stP_miss W.length (bkN W os) a b (by unfold bkN; rw [n1]; rfl))
            have M1 := Lib.hid n1
            clear n1 hle
            go_wp2_with fail
            refine (HC.out false M1.out).mono ?_
            rintro e w2 ⟨rfl, hq⟩
            go_wp2
            go_roundw
            case rel => exact ⟨b + 1, B, d, n, by omega, by go_num, rfl, by rw [HS.out]; exact HN, hn, by rw [HS.out]; exact (HO.out.below hq (Nat.le_refl _)).mono (Nat.le_refl _) hq.size, below_trans hb hq⟩
            case measure => simp [intOf]; omega
          | true =>
            have HU : Hid (bkN W os a b = decide (posI os b < posI os a)) := Lib.hid (by unfold bkN; rw [n1]; rfl)
            have M1 := Lib.hid n1
            clear n1
            go_wp2_with fail
            refine (HC.out true M1.out).mono ?_
            rintro e w2 ⟨rfl, hq⟩
            have hb2 := below_trans hb hq
            have hr2 := Lib.hid (h'.rowAt hb2 (Nat.le_refl _))
            have HO2 := Lib.hid ((HO.out.below hq (Nat.le_refl _)))
            have hz2 := hq.size
            have hz1 := hb.size
            have HIA := Lib.hid (HI.out (a : Int) w2 hr2.out)
            have HIB := Lib.hid (HI.out (b : Int) w2 hr2.out)
            have HPA : Hid (idxOf (fun y => (a : Int) == y) os = posI os a) := Lib.hid rfl
            have HPB : Hid (idxOf (fun y => (b : Int) == y) os = posI os b) := Lib.hid rfl
            generalize posI os a = pa at *
            generalize posI os b = pb at *
            rw [HPA.out] at HIA
            rw [HPB.out] at HIB
            by_cases hp : pb < pa
            · have HS := Lib.hid (stP_hit W.length (bkN W os) a b (HU.out.trans (decide_eq_true hp)))
              have hle2 : n + 1 ≤ 100 := by rw [HS.out, List.length_append, ← HN.out] at hle; exact hle
              clear hle
              go_wp2_with (first
                | (go_at_call 94; (with_reducible refine HIA.out.mono ?_); rintro e w' ⟨rfl, rfl⟩)
                | (go_at_call 94; (with_reducible refine HIB.out.mono ?_); rintro e w' ⟨rfl, rfl⟩)
                | (at_builtin; refine wpList_pushT rfl (.tmp 31) (.tmp 35) rfl w1.heap.size wr.heap.size (w2.heap.size + 1) B d n (stP W.length (bkN W os) a b) (pair2 a b) w2.heap.size 2 (w2.heap.size + 1) 2 rfl rfl HN.out ?c5 ?c6 rfl ?c7 ?c8 ?c9 ?c0 (by omega) ?c1 ?_))
              case c5 => exact (HO2.out.alloc (by omega) _).alloc (by simp; omega) _
              case c6 =>
                have hm := Own.made w2 w1.heap.size 3 #[.int .i64 (a : Int), .int .i64 (b : Int)] (by omega) (by simp [maxLen])
                exact (hm.alloc (by simp) _)
              case c7 => omega
              case c8 => simp
              case c9 => simp; omega
              case c0 => go_simp
              case c1 => simp; omega
              intro A2 c2 w4 ho4 hg4
              have HO4 := Lib.hid ho4
              clear ho4
              go_wp2
              go_roundw
              case rel => exact ⟨b + 1, A2, c2, n + 1, by omega, by go_num, rfl, Lib.hid (by rw [HS.out, List.length_append, HN.out]; rfl), hle2, by rw [HS.out]; exact HO4.out, (((hb2.alloc (by omega) _).alloc (by simp; omega) _).trans (hg4.below (Nat.le_refl _) (by simp; omega)))⟩
              case measure => simp [intOf]; omega
            · have HS := Lib.hid (stP_miss W.length (bkN W os) a b (HU.out.trans (decide_eq_false hp)))
              clear hle
              go_wp2_with (first
                | (go_at_call 94; (with_reducible refine HIA.out.mono ?_); rintro e w' ⟨rfl, rfl⟩)
                | (go_at_call 94; (with_reducible refine HIB.out.mono ?_); rintro e w' ⟨rfl, rfl⟩))
              go_roundw
              case rel => exact ⟨b + 1, B, d, n, by omega, by go_num, rfl, by rw [HS.out]; exact HN, hn, by rw [HS.out]; exact HO2.out.mono (Nat.le_refl _) (by omega), hb2⟩
              case measure => simp [intOf]; omega
        · obtain rfl : b = W.length := by omega
          have HS := Lib.hid (stP_b W.length (bkN W os) a)
          go_wp2
          go_roundw
          case rel => exact ⟨a + 1, B, d, n, by omega, by go_num, rfl, by rw [← HS.out]; exact HN, hn, by rw [← HS.out]; exact HO.out, hb⟩
          case measure => simp [intOf]; omega
    · obtain rfl : a = W.length := by omega
      have HS := Lib.hid (stP_end W.length (bkN W os))
      go_wp2
      go_ret
      exact ⟨B, d, ret_slice (by show n = (backRows W os).length; unfold backRows; rw [← HS.out]; exact HN.out), by unfold backRows; rw [← HS.out]; exact HO.out.mono hbw.size (Nat.le_refl _), below_trans hbw hb⟩

/-! ### Counting reversals along the order -/
/-- Order entry i. -/
def atN (os : List Int) (i : Nat) : Nat := (os.getD i 0).toNat
def rvN (W : List Nat) (os : List Int) (i j : Nat) : Nat := if bt W (atN os j) (atN os i) then 1 else 0
/-- Reversals of entry i with entries i + 1 .. i + k. -/
def rvC (W : List Nat) (os : List Int) (i k : Nat) : Nat := ((List.range k).map fun j => rvN W os i (i + 1 + j)).sum
def rvA (W : List Nat) (os : List Int) (i : Nat) : Nat := ((List.range i).map fun i' => rvC W os i' (os.length - (i' + 1))).sum
def revs (W : List Nat) (os : List Int) : Nat := rvA W os os.length
theorem rvN_le (W : List Nat) (os : List Int) (i j : Nat) : rvN W os i j ≤ 1 := by unfold rvN; split <;> omega
theorem rvC_succ (W : List Nat) (os : List Int) (i k : Nat) : rvC W os i (k + 1) = rvC W os i k + rvN W os i (i + 1 + k) := by simp [rvC, List.range_succ]
theorem rvA_succ (W : List Nat) (os : List Int) (i : Nat) : rvA W os (i + 1) = rvA W os i + rvC W os i (os.length - (i + 1)) := by simp [rvA, List.range_succ]
theorem rvC_le (W : List Nat) (os : List Int) (i k : Nat) : rvC W os i k ≤ k := by
  induction k with
  | zero => simp [rvC]
  | succ k ih => rw [rvC_succ]; have := rvN_le W os i (i + 1 + k); omega
theorem rvA_le (W : List Nat) (os : List Int) (h8 : os.length ≤ 8) (i : Nat) : rvA W os i ≤ 8 * i := by
  induction i with
  | zero => simp [rvA]
  | succ i ih => rw [rvA_succ]; have := rvC_le W os i (os.length - (i + 1)); omega

theorem drop_row {w : World} {B : Nat} {A : Option Addr} {zs : List Int} (h : Row w B A (ints zs)) {k : Nat} (hk : k < zs.length) : ∃ b off, A = some ⟨b, off, none⟩ ∧ b < B ∧ Row w B (some ⟨b, off + k, none⟩) (ints (zs.drop k)) := by
  obtain ⟨b, off, e, hb, hc⟩ := h (by rw [ints_length]; omega)
  refine ⟨b, off, e, hb, fun _ => ⟨b, off + k, rfl, hb, fun i u hu => ?_⟩⟩
  have : (ints zs)[k + i]? = some u := by
    unfold ints at *
    rw [List.map_drop, List.getElem?_drop] at hu
    exact hu
  have := hc (k + i) u this
  rwa [Nat.add_assoc]
set_option maxHeartbeats 800000 in
theorem l08Count_any (A : Option Addr) (c : Nat) (W : List Nat) (A' : Option Addr) (c' : Nat) (os : List Int) (w : World) (hT : IsT W) (h : Row w w.heap.size A (ints (casts W))) (h' : Row w w.heap.size A' (ints os)) (h8 : os.length ≤ 8) (hc' : os.length ≤ c') (hm : c' ≤ maxLen) (hin : ∀ i, i < os.length → 0 ≤ os.getD i 0 ∧ os.getD i 0 < (W.length : Int)) :
    Calls Try.prog 60 #[.agg #[.int .i64 (W.length : Int), .slice A W.length c], .slice A' os.length c'] w fun e w' => e = .returned (.int .i64 (revs W os : Nat)) ∧ Below w.heap.size w w' := by
  have g1 := hT.h1
  have g8 := hT.h8
  unfold maxLen at hm
  go_enter Try.func60, Try.ntmps60
  go_wp2
  obtain ⟨w1, hw1⟩ : ∃ w1, w1 = w.alloc (.cells #[.int .i64 (W.length : Int), .slice A W.length c] 27) := ⟨_, rfl⟩
  rw [← hw1]
  have k0 : w1.cell? ⟨w.heap.size, 0, none⟩ = some (.int .i64 (W.length : Int)) := by rw [hw1]; go_simp
  have k1 : w1.cell? ⟨w.heap.size, 1, none⟩ = some (.slice A W.length c) := by rw [hw1]; go_simp
  have hbw : Below w.heap.size w w1 := by rw [hw1]; go_grown
  have h := h.rowAt hbw (Nat.le_refl _)
  have h' := h'.rowAt hbw (Nat.le_refl _)
  clear hw1
  have hall : ∀ i (hi : i < os.length), os[i] = (atN os i : Nat) ∧ atN os i < W.length := by
    intro i hi
    have := hin i hi
    unfold atN
    rw [getD_lt _ _ _ hi] at this ⊢
    omega
  have HALL := Lib.hid hall
  clear hall hin
  go_loopw [5, 12] (fun v i wr => ∃ k : Nat, k ≤ os.length ∧ i = .int .i64 k ∧ v = .int .i64 (rvA W os k : Nat) ∧ Below w1.heap.size w1 wr) (fun _ i _ => os.length - (intOf i).toNat)
  case atStart => exact ⟨0, Nat.zero_le _, rfl, rfl, Below.refl _ _⟩
  case round =>
    obtain ⟨k, hk, rfl, rfl, hb⟩ := hrel
    have hra := rvA_le W os h8 k
    by_cases hlt : k < os.length
    · obtain ⟨b, off, rfl, _, hc⟩ := (h'.rowAt hb (Nat.le_refl _)).int hlt
      obtain ⟨e1, e2⟩ := HALL.out k hlt
      rw [e1] at hc
      have HS := Lib.hid (rvA_succ W os k)
      clear e1
      by_cases hk1 : k + 1 < os.length
      · obtain ⟨b2, off2, e3, _, hd⟩ := drop_row h' hk1
        simp only [Option.some.injEq, Addr.mk.injEq, and_true] at e3
        obtain ⟨rfl, rfl⟩ := e3
        have hcap : k + 1 < c' := by omega
        have hcap2 : (k : Int) + 1 < (c' : Int) := by omega
        have hne : ¬ (k + 1 = c') := by omega
        have hl1 : (os.drop (k + 1)).length = os.length - (k + 1) := by simp
        go_wp2
        go_loopw [5, 22] (fun v i wr => ∃ j : Nat, j ≤ os.length - (k + 1) ∧ i = .int .i64 j ∧ v = .int .i64 (rvA W os k + rvC W os k j : Nat) ∧ Below w1.heap.size w1 wr) (fun _ i _ => os.length - (k + 1) - (intOf i).toNat)
        case atStart => exact ⟨0, Nat.zero_le _, rfl, by simp [rvC], hb⟩
        case round =>
          clear hb
          obtain ⟨j, hj, rfl, rfl, hb⟩ := hrel
          have hrc := rvC_le W os k j
          obtain ⟨c0, c1⟩ := held_at k0 k1 hb
          by_cases hltj : j < os.length - (k + 1)
          · have hx : k + 1 + j < os.length := by omega
            obtain ⟨b3, off3, e4, _, hcj⟩ := (hd.rowAt hb (Nat.le_refl _)).int (k := j) (by rw [hl1]; exact hltj)
            simp only [Option.some.injEq, Addr.mk.injEq, and_true] at e4
            obtain ⟨rfl, rfl⟩ := e4
            rw [List.getElem_drop] at hcj
            obtain ⟨e5, e6⟩ := HALL.out (k + 1 + j) hx
            rw [e5] at hcj
            have HSC := Lib.hid (rvC_succ W os k j)
            have HC := Lib.hid (fun v hv => l02BeatsW_any A c W (atN os (k + 1 + j)) (atN os k) v hv wr hT (h.rowAt hb (Nat.le_refl _)) e6 e2)
            clear e5
            cases hv : bt W (atN os (k + 1 + j)) (atN os k) with
            | true =>
              have HR : Hid (rvN W os k (k + 1 + j) = 1) := Lib.hid (by unfold rvN; rw [hv]; rfl)
              have HV := Lib.hid hv
              clear hv
              go_wp2_with fail
              refine (HC.out true HV.out).mono ?_
              rintro e w2 ⟨rfl, hq⟩
              go_wp2
              go_roundw
              case rel => exact ⟨j + 1, by omega, by go_num, by rw [HSC.out, HR.out]; go_num, below_trans hb hq⟩
              case measure => simp [intOf]; omega
            | false =>
              have HR : Hid (rvN W os k (k + 1 + j) = 0) := Lib.hid (by unfold rvN; rw [hv]; rfl)
              have HV := Lib.hid hv
              clear hv
              go_wp2_with fail
              refine (HC.out false HV.out).mono ?_
              rintro e w2 ⟨rfl, hq⟩
              go_wp2
              go_roundw
              case rel => exact ⟨j + 1, by omega, by go_num, by rw [HSC.out, HR.out]; rfl, below_trans hb hq⟩
              case measure => simp [intOf]; omega
          · obtain rfl : j = os.length - (k + 1) := by omega
            go_wp2
            go_roundw
            case rel => exact ⟨k + 1, by omega, by go_num, by rw [HS.out], hb⟩
            case measure => simp [intOf]; omega
      · have hk2 : k + 1 = os.length := by omega
        have HZ : Hid (rvA W os (k + 1) = rvA W os k) := Lib.hid (by rw [HS.out, show os.length - (k + 1) = 0 by omega]; simp [rvC])
        have hz0 : os.length - (k + 1) = 0 := by omega
        by_cases hcap : k + 1 = c'
        · have hcap2 : (k : Int) + 1 = (c' : Int) := by omega
          go_wp2
          go_loopw [5, 22] (fun v i wr => i = .int .i64 0 ∧ v = .int .i64 (rvA W os k : Nat) ∧ Below w1.heap.size w1 wr) (fun _ i _ => 0)
          case atStart => exact ⟨rfl, rfl, hb⟩
          case round =>
            clear hb
            obtain ⟨rfl, rfl, hb⟩ := hrel
            go_wp2
            go_roundw
            case rel => exact ⟨k + 1, by omega, by go_num, by rw [HZ.out], hb⟩
            case measure => simp [intOf]; omega
        · have hcap1 : k + 1 < c' := by omega
          have hcap2 : (k : Int) + 1 < (c' : Int) := by omega
          go_wp2
          go_loopw [5, 22] (fun v i wr => i = .int .i64 0 ∧ v = .int .i64 (rvA W os k : Nat) ∧ Below w1.heap.size w1 wr) (fun _ i _ => 0)
          case atStart => exact ⟨rfl, rfl, hb⟩
          case round =>
            clear hb
            obtain ⟨rfl, rfl, hb⟩ := hrel
            go_wp2
            go_roundw
            case rel => exact ⟨k + 1, by omega, by go_num, by rw [HZ.out], hb⟩
            case measure => simp [intOf]; omega
    · obtain rfl : k = os.length := by omega
      go_wp2
      go_ret
      exact ⟨rfl, below_trans hbw hb⟩

/-! ### The two counts are one -/
theorem nodup_perm {α : Type} [DecidableEq α] : ∀ (l m : List α), l.Nodup → (∀ x ∈ l, x ∈ m) → m.length ≤ l.length → l.Perm m := by
  intro l
  induction l with
  | nil => intro m _ _ hl; have : m = [] := List.eq_nil_of_length_eq_zero (by simpa using hl); subst this; exact List.Perm.nil
  | cons a l ih =>
    intro m hn hs hl
    have ha := hs a (by simp)
    rw [List.nodup_cons] at hn
    have h1 : l.Perm (m.erase a) := by
      refine ih _ hn.2 (fun x hx => ?_) ?_
      · have hne : x ≠ a := fun e => by subst e; exact hn.1 hx
        exact (List.mem_erase_of_ne hne).2 (hs x (by simp [hx]))
      · rw [List.length_erase_of_mem ha]
        simp at hl
        omega
    exact (List.Perm.cons a h1).trans (List.perm_cons_erase ha).symm
theorem orderB_facts (os : List Int) (h : orderB os = true) : (∀ i (hi : i < os.length), 0 ≤ os[i] ∧ os[i] < (os.length : Int)) ∧ os.Nodup := by
  unfold orderB at h
  rw [List.all_eq_true] at h
  have hp : ∀ i (hi : i < os.length), (0 ≤ os[i] ∧ os[i] < (os.length : Int)) ∧ ∀ j (hj : j < i), os[i] ≠ os[j] := by
    intro i hi
    have := h i (by rwa [List.mem_range])
    rw [permAt_eq os i hi] at this
    simp only [Bool.and_eq_true, decide_eq_true_eq, Bool.not_eq_true', List.any_eq_false, beq_iff_eq] at this
    obtain ⟨⟨h1, h2⟩, h3⟩ := this
    refine ⟨⟨h1, by omega⟩, fun j hj => h3 _ ?_⟩
    rw [List.mem_take_iff_getElem]
    exact ⟨j, by omega, rfl⟩
  refine ⟨fun i hi => (hp i hi).1, ?_⟩
  rw [List.nodup_iff_pairwise_ne, List.pairwise_iff_getElem]
  intro i j hi hj hij
  exact fun e => (hp j hj).2 i hij e.symm
/-- The order as natural numbers. -/
def natL (os : List Int) : List Nat := os.map Int.toNat
theorem order_perm (os : List Int) (h : orderB os = true) : (natL os).Perm (List.range os.length) := by
  obtain ⟨h1, h2⟩ := orderB_facts os h
  refine nodup_perm _ _ ?_ ?_ (by simp [natL])
  · unfold natL
    rw [List.nodup_iff_pairwise_ne, List.pairwise_iff_getElem] at h2 ⊢
    intro i j hi hj hij e
    simp only [List.length_map] at hi hj
    simp only [List.getElem_map] at e
    exact h2 i j hi hj hij (by have := h1 i hi; have := h1 j hj; omega)
  · intro x hx
    unfold natL at hx
    rw [List.mem_map] at hx
    obtain ⟨z, hz, rfl⟩ := hx
    obtain ⟨i, hi, rfl⟩ := List.mem_iff_getElem.1 hz
    have := h1 i hi
    rw [List.mem_range]
    omega
theorem posI_at (os : List Int) (h : orderB os = true) (i : Nat) (hi : i < os.length) : posI os (atN os i) = (i : Int) := by
  obtain ⟨h1, h2⟩ := orderB_facts os h
  have e : ((atN os i : Nat) : Int) = os[i] := by unfold atN; rw [getD_lt _ _ _ hi]; have := h1 i hi; omega
  unfold posI
  rw [e]
  refine idxOf_hit _ _ i hi (by simp) (fun j hj => ?_)
  rw [List.nodup_iff_pairwise_ne, List.pairwise_iff_getElem] at h2
  have := h2 j i (by omega) hi hj
  simp
  exact fun e => this e.symm
theorem perm_sum (l m : List Nat) (h : l.Perm m) : l.sum = m.sum := by
  induction h with
  | nil => rfl
  | cons a _ ih => simp [ih]
  | swap a b l => simp; omega
  | trans _ _ ih1 ih2 => exact ih1.trans ih2
theorem sum_reorder (os : List Int) (h : orderB os = true) (g : Nat → Nat) : ((List.range os.length).map g).sum = ((List.range os.length).map fun i => g (atN os i)).sum := by
  have hp := (order_perm os h).map g
  rw [perm_sum _ _ hp.symm]
  congr 1
  apply List.ext_getElem
  · simp [natL]
  · intro i h1 h2
    simp only [List.length_map, natL] at h1
    simp only [natL, List.map_map, List.getElem_map, List.getElem_range, Function.comp]
    unfold atN
    rw [getD_lt _ _ _ h1]
theorem sum_split (g : Nat → Nat → Nat) (n : Nat) : ∀ (i : Nat), i < n → (∀ j, j ≤ i → g i j = 0) → ((List.range n).map (g i)).sum = ((List.range (n - (i + 1))).map fun j => g i (i + 1 + j)).sum := by
  intro i hi hz
  have e : List.range n = List.range (i + 1) ++ (List.range (n - (i + 1))).map (fun j => i + 1 + j) := by
    rw [← List.range_add, show i + 1 + (n - (i + 1)) = n by omega]
  rw [e, List.map_append, List.sum_append]
  have h0 : ((List.range (i + 1)).map (g i)).sum = 0 := by
    rw [List.map_congr_left (g := fun _ => 0) (fun j hj => hz j (by rw [List.mem_range] at hj; omega))]
    generalize List.range (i + 1) = l
    induction l with
    | nil => rfl
    | cons x xs ih => simpa using ih
  rw [h0, Nat.zero_add, List.map_map]
  rfl
theorem sum_swap (g : Nat → Nat → Nat) (n m : Nat) : ((List.range n).map fun i => ((List.range m).map fun j => g i j).sum).sum = ((List.range m).map fun j => ((List.range n).map fun i => g i j).sum).sum := by
  induction n with
  | zero =>
    simp only [List.range_zero, List.map_nil, List.sum_nil]
    generalize List.range m = l
    induction l with
    | nil => rfl
    | cons x xs ih => simpa using ih
  | succ n ih =>
    simp only [List.range_succ, List.map_append, List.sum_append, List.map_cons, List.map_nil, List.sum_cons, List.sum_nil, Nat.add_zero, ih]
    generalize List.range m = l
    induction l with
    | nil => rfl
    | cons x xs ih2 => simp only [List.map_cons, List.sum_cons]; omega
/-- Games against an order, counted either way. -/
theorem back_count (W : List Nat) (os : List Int) (hl : os.length = W.length) (h : orderB os = true) : (backRows W os).length = revs W os := by
  unfold backRows
  rw [prRows_length, ← hl]
  rw [sum_reorder os h]
  have h1 : ∀ i, i < os.length → ((List.range os.length).map fun b => if bkN W os (atN os i) b then 1 else 0).sum = ((List.range os.length).map fun j => if bkN W os (atN os i) (atN os j) then 1 else 0).sum := fun i _ => sum_reorder os h _
  rw [List.map_congr_left (fun i hi => h1 i (by rwa [List.mem_range] at hi))]
  rw [sum_swap]
  unfold revs rvA
  congr 1
  refine List.map_congr_left fun j hj => ?_
  rw [List.mem_range] at hj
  have h2 : ((List.range os.length).map fun i => if bkN W os (atN os i) (atN os j) then 1 else 0) = (List.range os.length).map fun i => (fun (j i : Nat) => if j < i then rvN W os j i else 0) j i := by
    refine List.map_congr_left fun i hi => ?_
    rw [List.mem_range] at hi
    unfold bkN rvN
    rw [posI_at os h i hi, posI_at os h j hj]
    by_cases hij : j < i
    · simp [hij]
    · simp [hij]
  rw [h2, sum_split (fun (j i : Nat) => if j < i then rvN W os j i else 0) os.length j hj (fun i hi => by simp; omega)]
  unfold rvC
  congr 1
  refine List.map_congr_left fun i _ => ?_
  rw [if_pos (by omega)]

/-- What both functions CountReversals answer. -/
def rCountReversals (s : Int) (zs : List Int) (os : List Int) : Int := if rOrderOk s zs os then ((backRows (toW zs) os).length : Nat) else -1
theorem orderOk_facts {s : Int} {zs os : List Int} (h : rOrderOk s zs os = true) : okB s zs = true ∧ os.length = (toW zs).length ∧ orderB os = true := by
  unfold rOrderOk at h
  split at h
  · rename_i h1
    rw [Bool.and_eq_true, decide_eq_true_eq] at h
    exact ⟨h1, h⟩
  · cases h
theorem iOrderOkW (A : Option Addr) (c : Nat) (W : List Nat) (A' : Option Addr) (c' : Nat) (os : List Int) (w : World) (hT : IsT W) (h : Row w w.heap.size A (ints (casts W))) (h' : Row w w.heap.size A' (ints os)) (hl' : os.length ≤ 1099511627776) (hc' : os.length ≤ c') (hol : os.length = W.length) (hob : orderB os = true) :
    Calls Try.prog 61 #[.agg #[.int .i64 (W.length : Int), .slice A W.length c], .slice A' os.length c'] w fun e w' => e = .returned (.bool true) ∧ Below w.heap.size w w' := by
  have g8 := hT.h8
  have hk : rOrderOk (W.length : Int) (casts W) os = true := by unfold rOrderOk; rw [tour_ok hT, toW_casts, hob, decide_eq_true hol]; rfl
  have := iOrderOk_any A c (W.length : Int) (casts W) A' c' os w h (by rw [casts_length]; omega) h' hl' hc'
  rwa [hk, casts_length] at this
theorem sOrderOkW (A : Option Addr) (c : Nat) (W : List Nat) (A' : Option Addr) (c' : Nat) (os : List Int) (w : World) (hT : IsT W) (h : Row w w.heap.size A (ints (casts W))) (h' : Row w w.heap.size A' (ints os)) (hl' : os.length ≤ 1099511627776) (hc' : os.length ≤ c') (hol : os.length = W.length) (hob : orderB os = true) :
    Calls Try.prog 59 #[.agg #[.int .i64 (W.length : Int), .slice A W.length c], .slice A' os.length c'] w fun e w' => e = .returned (.bool true) ∧ Below w.heap.size w w' := by
  have g8 := hT.h8
  have hk : rOrderOk (W.length : Int) (casts W) os = true := by unfold rOrderOk; rw [tour_ok hT, toW_casts, hob, decide_eq_true hol]; rfl
  have := sOrderOk_any A c (W.length : Int) (casts W) A' c' os w h (by rw [casts_length]; omega) h' hl' hc'
  rwa [hk, casts_length] at this
theorem iCountReversals_any (A : Option Addr) (c : Nat) (s : Int) (zs : List Int) (A' : Option Addr) (c' : Nat) (os : List Int) (w : World) (h : Row w w.heap.size A (ints zs)) (hl : zs.length ≤ 1099511627776) (h' : Row w w.heap.size A' (ints os)) (hl' : os.length ≤ 1099511627776) (hc' : os.length ≤ c') (_ : c' ≤ maxLen) :
    Calls Try.prog 24 #[.agg #[.int .i64 s, .slice A zs.length c], .slice A' os.length c'] w fun e w' => e = .returned (.int .i64 (rCountReversals s zs os)) ∧ Below w.heap.size w w' := by
  cases hok : rOrderOk s zs os with
  | false =>
    have N : Hid (rCountReversals s zs os = -1) := Lib.hid (by unfold rCountReversals; rw [hok]; rfl)
    have HK := Lib.hid hok
    clear hok
    go_enter Try.func24, Try.ntmps24
    go_wp2_with fail
    refine (iOrderOk_any A c s zs A' c' os _ (h.rowAt (by go_grown) (Nat.le_refl _)) hl (h'.rowAt (by go_grown) (Nat.le_refl _)) hl' hc').mono ?_
    rw [HK.out]
    rintro e w1 ⟨rfl, hb⟩
    obtain ⟨k0, k1, hbw, hsz⟩ := box1 hb
    clear hb
    go_wp2
    go_ret
    exact ⟨ret_int N.out.symm, hbw⟩
  | true =>
    obtain ⟨ho, hol, hob⟩ := orderOk_facts hok
    obtain ⟨W, rfl, rfl, hT⟩ := ok_tour ho
    rw [toW_casts] at hol
    have N : Hid (rCountReversals (W.length : Int) (casts W) os = ((backRows W os).length : Nat)) := Lib.hid (by unfold rCountReversals; rw [hok, toW_casts]; rfl)
    rw [casts_length]
    have HOL := Lib.hid hol
    have HOB := Lib.hid hob
    have hl8 : os.length ≤ 8 := by have := hT.h8; omega
    clear hok ho hl hol hob
    go_enter Try.func24, Try.ntmps24
    go_wp2_with fail
    refine (iOrderOkW A c W A' c' os _ hT (h.rowAt (by go_grown) (Nat.le_refl _)) (h'.rowAt (by go_grown) (Nat.le_refl _)) hl' hc' HOL.out HOB.out).mono ?_
    rintro e w1 ⟨rfl, hb⟩
    obtain ⟨k0, k1, hbw, hsz⟩ := box1 hb
    clear hb
    go_wp2_with fail
    refine (backGames_any A c W A' c' os _ hT (h.rowAt hbw (Nat.le_refl _)) (h'.rowAt hbw (Nat.le_refl _)) hl').mono ?_
    rintro e w2 ⟨B, d, rfl, hown, hb2⟩
    go_wp2
    go_ret
    exact ⟨ret_int N.out.symm, below_trans hbw hb2⟩
theorem sCountReversals_any (A : Option Addr) (c : Nat) (s : Int) (zs : List Int) (A' : Option Addr) (c' : Nat) (os : List Int) (w : World) (h : Row w w.heap.size A (ints zs)) (hl : zs.length ≤ 1099511627776) (h' : Row w w.heap.size A' (ints os)) (hl' : os.length ≤ 1099511627776) (hc' : os.length ≤ c') (hm : c' ≤ maxLen) :
    Calls Try.prog 22 #[.agg #[.int .i64 s, .slice A zs.length c], .slice A' os.length c'] w fun e w' => e = .returned (.int .i64 (rCountReversals s zs os)) ∧ Below w.heap.size w w' := by
  cases hok : rOrderOk s zs os with
  | false =>
    have N : Hid (rCountReversals s zs os = -1) := Lib.hid (by unfold rCountReversals; rw [hok]; rfl)
    have HK := Lib.hid hok
    clear hok
    go_enter Try.func22, Try.ntmps22
    go_wp2_with fail
    refine (sOrderOk_any A c s zs A' c' os _ (h.rowAt (by go_grown) (Nat.le_refl _)) hl (h'.rowAt (by go_grown) (Nat.le_refl _)) hl' hc').mono ?_
    rw [HK.out]
    rintro e w1 ⟨rfl, hb⟩
    obtain ⟨k0, k1, hbw, hsz⟩ := box1 hb
    clear hb
    go_wp2
    go_ret
    exact ⟨ret_int N.out.symm, hbw⟩
  | true =>
    obtain ⟨ho, hol, hob⟩ := orderOk_facts hok
    obtain ⟨W, rfl, rfl, hT⟩ := ok_tour ho
    rw [toW_casts] at hol
    have N : Hid (rCountReversals (W.length : Int) (casts W) os = (revs W os : Nat)) := Lib.hid (by unfold rCountReversals; rw [hok, toW_casts, if_pos rfl, back_count W os hol hob])
    have g8 := hT.h8
    have HIN := Lib.hid (fun i (hi : i < os.length) => (show 0 ≤ os.getD i 0 ∧ os.getD i 0 < (W.length : Int) by have := (orderB_facts os hob).1 i hi; rw [getD_lt _ _ _ hi]; omega))
    rw [casts_length]
    have HOL := Lib.hid hol
    have HOB := Lib.hid hob
    have hl8 : os.length ≤ 8 := by have := hT.h8; omega
    clear hok ho hl hol hob
    go_enter Try.func22, Try.ntmps22
    go_wp2_with fail
    refine (sOrderOkW A c W A' c' os _ hT (h.rowAt (by go_grown) (Nat.le_refl _)) (h'.rowAt (by go_grown) (Nat.le_refl _)) hl' hc' HOL.out HOB.out).mono ?_
    rintro e w1 ⟨rfl, hb⟩
    obtain ⟨k0, k1, hbw, hsz⟩ := box1 hb
    clear hb
    go_wp2_with fail
    refine (l08Count_any A c W A' c' os _ hT (h.rowAt hbw (Nat.le_refl _)) (h'.rowAt hbw (Nat.le_refl _)) hl8 hc' hm HIN.out).mono ?_
    rintro e w2 ⟨rfl, hb2⟩
    go_wp2
    go_ret
    exact ⟨ret_int N.out.symm, below_trans hbw hb2⟩
end Go.Proofs.Ytfjofnmdmdejpaa
