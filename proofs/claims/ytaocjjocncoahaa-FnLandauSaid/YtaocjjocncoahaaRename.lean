/- RenameTour: plain law; renamed, l02Rename, walked (printed by tools/rename.py). -/
import Derived.Test.YtaocjjocncoahaaMg5
import Derived.Test.YtaocjjocncoahaaTourOf
import Derived.Test.YtaocjjocncoahaaBack
import Derived.Test.YtaocjjocncoahaaMg3
import Derived.BigRegion
namespace Go.Proofs.Ytaocjjocncoahaa
open Go.RowKit

/-- Who bears the new name x. -/
def qI (os : List Int) (x : Nat) : Nat := os.findIdx fun y => (x : Int) == y
def renB (W : List Nat) (os : List Int) (a b x y : Nat) : Bool := bt W (qI os x) (qI os y) && (decide (qI os x < a) || (decide (qI os x = a) && decide (qI os y < b)))
/-- The rows of wins when a players are done, and b results of the next. -/
def renSt (W : List Nat) (os : List Int) (a b : Nat) : List Nat := (List.range W.length).map fun x => ofB W.length (renB W os a b x)
def renW (W : List Nat) (os : List Int) : List Nat := (List.range W.length).map fun x => ofB W.length fun y => bt W (qI os x) (qI os y)
theorem renSt_length (W : List Nat) (os : List Int) (a b : Nat) : (renSt W os a b).length = W.length := by simp [renSt]
theorem renW_length (W : List Nat) (os : List Int) : (renW W os).length = W.length := by simp [renW]
theorem renSt_get (W : List Nat) (os : List Int) (a b x : Nat) (h : x < (renSt W os a b).length) : (renSt W os a b)[x] = ofB W.length (renB W os a b x) := by simp [renSt]
theorem renSt_zero (W : List Nat) (os : List Int) : renSt W os 0 0 = List.replicate W.length 0 := by
  rw [List.eq_replicate_iff]
  refine ⟨renSt_length _ _ _ _, fun x hx => ?_⟩
  simp only [renSt, List.mem_map] at hx
  obtain ⟨i, _, rfl⟩ := hx
  exact (eq_ofB W.length 0 _ (Nat.two_pow_pos _) (fun j _ => by simp [renB])).symm
theorem renSt_next (W : List Nat) (hT : IsT W) (os : List Int) (a : Nat) : renSt W os a W.length = renSt W os (a + 1) 0 := by
  refine List.map_congr_left fun x _ => ofB_congr _ _ _ fun y _ => ?_
  unfold renB
  by_cases h : qI os y < W.length
  · by_cases h1 : qI os x < a
    · simp [h1, show qI os x < a + 1 by omega]
    · by_cases h2 : qI os x = a
      · simp [h, h2]
      · simp [h1, h2, show ¬ qI os x < a + 1 by omega]
  · rw [hT.out _ _ (by omega), Bool.false_and, Bool.false_and]
theorem renSt_end (W : List Nat) (os : List Int) : renSt W os W.length 0 = renW W os := by
  refine List.map_congr_left fun x _ => ofB_congr _ _ _ fun y _ => ?_
  unfold renB
  by_cases h : qI os x < W.length
  · simp [h]
  · rw [bt_out _ _ (by omega), Bool.false_and]
theorem qI_at (os : List Int) (h : orderB os = true) (i : Nat) (hi : i < os.length) : qI os (atN os i) = i := by
  have h1 := posI_at os h i hi
  unfold posI idxOf at h1
  unfold qI
  split at h1 <;> omega
theorem qI_of (os : List Int) (_ : orderB os = true) (x i : Nat) (hi : i < os.length) (hq : qI os x = i) : x = atN os i := by
  have hlt : os.findIdx (fun y => (x : Int) == y) < os.length := by unfold qI at hq; omega
  have h1 := List.findIdx_getElem (w := hlt)
  rw [beq_iff_eq] at h1
  have e : os[os.findIdx fun y => (x : Int) == y] = os[i] := by
    congr 1
  rw [e] at h1
  unfold atN
  rw [getD_lt _ _ _ hi, ← h1]
  rfl
theorem atN_cast (os : List Int) (h : orderB os = true) (i : Nat) (hi : i < os.length) : os[i] = (atN os i : Int) ∧ atN os i < os.length := by
  have := (orderB_facts os h).1 i hi
  unfold atN
  rw [getD_lt _ _ _ hi]
  omega
theorem renSt_skip (W : List Nat) (os : List Int) (a b : Nat) (h : bt W a b = false) : renSt W os a (b + 1) = renSt W os a b := by
  refine List.map_congr_left fun x _ => ofB_congr _ _ _ fun y _ => ?_
  unfold renB
  by_cases h1 : qI os x = a
  · by_cases h2 : qI os y = b
    · rw [h1, h2, h, Bool.false_and, Bool.false_and]
    · have : (decide (qI os y < b + 1)) = decide (qI os y < b) := by rw [decide_eq_decide]; omega
      rw [this]
  · simp [h1]
theorem renSt_step (W : List Nat) (os : List Int) (hl : os.length = W.length) (ho : orderB os = true) (a b : Nat) (ha : a < W.length) (hb : b < W.length) (h : bt W a b = true) (hp : atN os a < (renSt W os a b).length) :
    (renSt W os a b).set (atN os a) ((renSt W os a b)[atN os a] ||| 2 ^ atN os b) = renSt W os a (b + 1) ∧ ((renSt W os a b)[atN os a]).testBit (atN os b) = false := by
  have pa := (atN_cast os ho a (by omega)).2
  have pb := (atN_cast os ho b (by omega)).2
  have q1 := qI_at os ho a (by omega)
  have q2 := qI_at os ho b (by omega)
  constructor
  · apply List.ext_getElem
    · simp [renSt_length]
    · intro x h1 h2
      rw [renSt_length] at h2
      rw [List.getElem_set, renSt_get W os a (b + 1)]
      split
      · rename_i e
        subst e
        have e1 := renSt_get W os a b (atN os a) hp
        rw [e1]
        refine eq_ofB _ _ _ (Nat.or_lt_two_pow (ofB_lt _ _) (Nat.pow_lt_pow_right (by omega) (by omega))) fun y hy => ?_
        rw [Nat.testBit_or, testBit_ofB, Nat.testBit_two_pow, decide_eq_true hy, Bool.true_and]
        unfold renB
        rw [q1]
        by_cases e : qI os y = b
        · have ey := qI_of os ho y b (by omega) e
          rw [e, h]
          simp [ey]
        · have ey : ¬ atN os b = y := fun e2 => e (by rw [← e2]; exact q2)
          have : (decide (qI os y < b + 1)) = decide (qI os y < b) := by rw [decide_eq_decide]; omega
          rw [this]
          simp [ey]
      · rename_i e
        rw [renSt_get]
        refine ofB_congr _ _ _ fun y _ => ?_
        unfold renB
        have : ¬ qI os x = a := fun e2 => e (qI_of os ho x a (by omega) e2).symm
        simp [this]
  · rw [renSt_get, testBit_ofB]
    unfold renB
    rw [q1, q2]
    simp
theorem or_sub_self' (S x : Nat) (hS : S < 256) (hx : x < 8) (hxS : S.testBit x = false) : (S ||| 2 ^ x) - 2 ^ x = S := by
  have hS' : S ||| 2 ^ x < 256 := Nat.or_lt_two_pow (n := 8) hS (Nat.pow_lt_pow_right (by omega) hx)
  apply Nat.eq_of_testBit_eq
  intro i
  rw [testBit_sub _ x i hS' hx (by rw [Nat.testBit_or, Nat.testBit_two_pow_self, Bool.or_true]), Nat.testBit_or, Nat.testBit_two_pow]
  by_cases h : x = i
  · subst h; simp [hxS]
  · have : ¬ i = x := fun e => h e.symm
    simp [h, this]
theorem or_add (x k : Nat) (hx : x < 256) (hk : k < 8) (h : x.testBit k = false) : x ||| 2 ^ k = x + 2 ^ k := by
  have h1 := or_sub_self' x k hx hk h
  have h2 : 2 ^ k ≤ x ||| 2 ^ k := Nat.right_le_or
  omega
theorem renSt_lt (W : List Nat) (h8 : W.length ≤ 8) (os : List Int) (a b x : Nat) (h : x < (renSt W os a b).length) : (renSt W os a b)[x] < 256 := by
  rw [renSt_get]
  exact Nat.lt_of_lt_of_le (ofB_lt _ _) (pow_le8 _ h8)
/-- What stands when the rows of wins have been made. -/
structure RenF (w w1 : World) (gw gu n : Nat) (A : Option Addr) (c : Nat) : Prop where
  k0 : w1.cell? ⟨w.heap.size, 0, none⟩ = some (.int .i64 (n : Int))
  k1 : w1.cell? ⟨w.heap.size, 1, none⟩ = some (.slice A n c)
  r0 : w1.cell? ⟨w.heap.size + 1, 0, none⟩ = some (.int .i64 0)
  r1 : w1.cell? ⟨w.heap.size + 1, 1, none⟩ = some (.slice none 0 0)
  f0 : w1.frozen? ⟨w.heap.size + 1, 0, none⟩ = false
  f1 : w1.frozen? ⟨w.heap.size + 1, 1, none⟩ = false
  j0 : w1.cell? ⟨gu, 0, none⟩ = some (.int .i64 (n : Int))
  j1 : w1.cell? ⟨gu, 1, none⟩ = some (.slice (some ⟨gw, 0, none⟩) n n)
  own : Own w1 gw (gw + 1) 3 (some ⟨gw, 0, none⟩) n (ints (casts (List.replicate n 0)))
  below : Below w.heap.size w w1
  ne : gu ≠ gw
  lw : w.heap.size + 2 ≤ gw
  lu : w.heap.size + 2 ≤ gu
  hw : gw < w1.heap.size
  hu : gu < w1.heap.size
theorem RenF.next {w w1 wr : World} {gw gu n : Nat} {A : Option Addr} {c : Nat} (h : RenF w w1 gw gu n A c) (ho : Only gw (gw + 1) w1 wr) :
    (wr.cell? ⟨w.heap.size, 0, none⟩ = some (.int .i64 (n : Int)) ∧ wr.cell? ⟨w.heap.size, 1, none⟩ = some (.slice A n c)) ∧ (wr.cell? ⟨w.heap.size + 1, 0, none⟩ = some (.int .i64 0) ∧ wr.cell? ⟨w.heap.size + 1, 1, none⟩ = some (.slice none 0 0)) ∧
    (wr.frozen? ⟨w.heap.size + 1, 0, none⟩ = false ∧ wr.frozen? ⟨w.heap.size + 1, 1, none⟩ = false) ∧ wr.cell? ⟨gu, 0, none⟩ = some (.int .i64 (n : Int)) ∧ wr.cell? ⟨gu, 1, none⟩ = some (.slice (some ⟨gw, 0, none⟩) n n) ∧ Below w.heap.size w wr := by
  obtain ⟨k0, k1, r0, r1, f0, f1, j0, j1, _, hb, ne, lw, lu, hw, hu⟩ := h
  refine ⟨⟨(ho.cell (p := ⟨w.heap.size, 0, none⟩) ?_ ?_).trans k0, (ho.cell (p := ⟨w.heap.size, 1, none⟩) ?_ ?_).trans k1⟩, ⟨(ho.cell (p := ⟨w.heap.size + 1, 0, none⟩) ?_ ?_).trans r0, (ho.cell (p := ⟨w.heap.size + 1, 1, none⟩) ?_ ?_).trans r1⟩,
    ⟨(ho.frozen (p := ⟨w.heap.size + 1, 0, none⟩) ?_ ?_).trans f0, (ho.frozen (p := ⟨w.heap.size + 1, 1, none⟩) ?_ ?_).trans f1⟩, (ho.cell (p := ⟨gu, 0, none⟩) ?_ ?_).trans j0, (ho.cell (p := ⟨gu, 1, none⟩) ?_ ?_).trans j1, hb.trans (ho.below (by omega) (by omega))⟩
  all_goals (first | (show w.heap.size < _; omega) | (show w.heap.size + 1 < _; omega) | (show gu < _; omega) | (show w.heap.size < _ ∨ _ ≤ w.heap.size; omega) | (show w.heap.size + 1 < _ ∨ _ ≤ w.heap.size + 1; omega) | (show gu < _ ∨ _ ≤ gu; omega))
set_option linter.unusedSimpArgs false in
set_option maxHeartbeats 4000000 in
theorem l02Rename_any (A : Option Addr) (c : Nat) (W : List Nat) (A' : Option Addr) (c' : Nat) (os : List Int) (w : World) (hT : IsT W) (h : Row w w.heap.size A (ints (casts W))) (h' : Row w w.heap.size A' (ints os)) (hl : os.length = W.length) (ho : orderB os = true) :
    Calls Try.prog 75 #[.agg #[.int .i64 (W.length : Int), .slice A W.length c], .slice A' W.length c'] w (NewTour w (W.length : Int) (casts (renW W os))) := by
  have g1 := hT.h1
  have g8 := hT.h8
  have hmk := make_ints W.length (by omega)
  have HT := Lib.hid hT
  have HL := Lib.hid hl
  have HO := Lib.hid ho
  go_enter Try.func75, Try.ntmps75
  go_wp2
  obtain ⟨w0, hw0⟩ : ∃ w0, w0 = (w.alloc (.cells #[.int .i64 (W.length : Int), .slice A W.length c] 26)).alloc (.cells #[.int .i64 0, .slice none 0 0] 26) := ⟨_, rfl⟩
  rw [← hw0]
  have k0 : w0.cell? ⟨w.heap.size, 0, none⟩ = some (.int .i64 (W.length : Int)) := by rw [hw0]; go_simp
  have k1 : w0.cell? ⟨w.heap.size, 1, none⟩ = some (.slice A W.length c) := by rw [hw0]; go_simp
  have r0 : w0.cell? ⟨w.heap.size + 1, 0, none⟩ = some (.int .i64 0) := by rw [hw0]; go_simp
  have r1 : w0.cell? ⟨w.heap.size + 1, 1, none⟩ = some (.slice none 0 0) := by rw [hw0]; go_simp
  have f0 : w0.frozen? ⟨w.heap.size + 1, 0, none⟩ = false := by rw [hw0]; go_simp
  have f1 : w0.frozen? ⟨w.heap.size + 1, 1, none⟩ = false := by rw [hw0]; go_simp
  have hs0 : w.heap.size < w0.heap.size := by rw [hw0]; simp; omega
  have hs2 : w0.heap.size = w.heap.size + 2 := by rw [hw0]; simp
  have HS2 := Lib.hid hs2
  have hs3 : w.heap.size + 2 ≤ w0.heap.size := by omega
  have hb0 : Below w.heap.size w w0 := by rw [hw0]; go_grown
  have HK := Lib.hid (fun W' (hW : Below w0.heap.size w0 W') => (⟨hW, (hW.cell (p := ⟨w.heap.size, 0, none⟩) hs0).trans k0, (hW.cell (p := ⟨w.heap.size, 1, none⟩) hs0).trans k1⟩ : Below w0.heap.size w0 W' ∧ W'.cell? ⟨w.heap.size, 0, none⟩ = some (.int .i64 (W.length : Int)) ∧ W'.cell? ⟨w.heap.size, 1, none⟩ = some (.slice A W.length c)))
  have HRF : Hid (∀ w1 gw gu, Below w0.heap.size w0 w1 → gu ≠ gw → w0.heap.size ≤ gw → w0.heap.size ≤ gu → gw < w1.heap.size → gu < w1.heap.size → w1.cell? ⟨gu, 0, none⟩ = some (.int .i64 (W.length : Int)) → w1.cell? ⟨gu, 1, none⟩ = some (.slice (some ⟨gw, 0, none⟩) W.length W.length) →
      Own w1 gw (gw + 1) 3 (some ⟨gw, 0, none⟩) W.length (ints (List.replicate W.length 0)) → RenF w w1 gw gu W.length A c) := Lib.hid (fun w1 gw gu hb hne hlw hlu hw hu e0 e1 hown =>
    ⟨(hb.cell (p := ⟨w.heap.size, 0, none⟩) hs0).trans k0, (hb.cell (p := ⟨w.heap.size, 1, none⟩) hs0).trans k1, (hb.cell (p := ⟨w.heap.size + 1, 0, none⟩) (by show w.heap.size + 1 < _; omega)).trans r0, (hb.cell (p := ⟨w.heap.size + 1, 1, none⟩) (by show w.heap.size + 1 < _; omega)).trans r1,
      (hb.frozen (p := ⟨w.heap.size + 1, 0, none⟩) (by show w.heap.size + 1 < _; omega)).trans f0, (hb.frozen (p := ⟨w.heap.size + 1, 1, none⟩) (by show w.heap.size + 1 < _; omega)).trans f1, e0, e1, by rw [casts_zeros]; exact hown, hb0.trans (hb.mono (by omega)), hne, by omega, by omega, hw, hu⟩)
  clear hw0 hl ho hs2 hT r0 r1 f0 f1
  go_region_held3 (fun w' => Below w0.heap.size w0 w' ∧ w'.cell? ⟨w.heap.size, 0, none⟩ = some (.int .i64 (W.length : Int)) ∧ w'.cell? ⟨w.heap.size, 1, none⟩ = some (.slice A W.length c)) ((refine HK.out _ ?_; go_grown)) (fail)
  · obtain ⟨w1, hw1⟩ : ∃ w1, w1 = ((w0.alloc (.cells (madeCells #[.int .i64 0] W.length) 3)).alloc (.cells #[.int .i64 (W.length : Int), .slice (some ⟨w0.heap.size, 0, none⟩) W.length W.length] 26)).drew := ⟨_, rfl⟩
    rw [← hw1]
    have HF : Hid (RenF w w1 w0.heap.size (w0.heap.size + 1) W.length A c) := Lib.hid (HRF.out w1 _ _ (by rw [hw1]; exact (((Below.refl _ _).alloc (Nat.le_refl _) _).alloc (by simp) _).drew) (by omega) (Nat.le_refl _) (by omega) (by rw [hw1]; simp; omega) (by rw [hw1]; simp) (by rw [hw1]; go_simp) (by rw [hw1]; go_simp) (by rw [hw1]; exact ((own_made w0 w0.heap.size W.length (Nat.le_refl _) (by omega)).alloc (by simp) _).drew))
    obtain ⟨gu, hgu⟩ : ∃ g, g = w0.heap.size + 1 := ⟨_, rfl⟩
    obtain ⟨gw, hgw⟩ : ∃ g, g = w0.heap.size := ⟨_, rfl⟩
    have HF : Hid (RenF w w1 gw gu W.length A c) := Lib.hid (by rw [hgu, hgw]; exact HF.out)
    rw [← hgu, ← hgw]
    clear hw1 hgu hgw k0 k1 HK HRF
    have k0 := HF.out.k0
    have k1 := HF.out.k1
    have hlw := HF.out.lw
    have hlu := HF.out.lu
    have hgu := HF.out.hu
    have hgw := HF.out.hw
    go_wp2
    go_loopw [18] (fun i wr => ∃ a : Nat, a ≤ W.length ∧ i = .int .i64 (a : Int) ∧ Own wr gw (gw + 1) 3 (some ⟨gw, 0, none⟩) W.length (ints (casts (renSt W os a 0))) ∧ Only gw (gw + 1) w1 wr) (fun i _ => W.length - (intOf i).toNat)
    case atStart => exact ⟨0, Nat.zero_le _, rfl, by rw [renSt_zero]; exact HF.out.own, Only.refl _ _ _⟩
    case round =>
      clear k0 k1
      obtain ⟨a, ha, rfl, ho, hon⟩ := hrel
      obtain ⟨⟨k0, k1⟩, ⟨r0, r1⟩, ⟨f0, f1⟩, j0, j1, hbr⟩ := HF.out.next hon
      have HO0 := Lib.hid ho
      clear ho
      by_cases hlt : a < W.length
      · obtain ⟨bA, oA, eA, _, hcA⟩ := (h.rowAt hbr (Nat.le_refl _)).nat hlt
        subst eA
        have hxa := HT.out.lt256' hlt
        have HBT := Lib.hid (fun b => @bt_lt W a b hlt)
        clear r0 r1 f0 f1 j0 j1
        go_wp2
        obtain ⟨wo, rfl⟩ : ∃ wo : World, wo = wr := ⟨_, rfl⟩
        go_loopw [26] (fun i wr => ∃ b : Nat, b ≤ W.length ∧ i = .int .i64 (b : Int) ∧ Own wr gw (gw + 1) 3 (some ⟨gw, 0, none⟩) W.length (ints (casts (renSt W os a b))) ∧ Only gw (gw + 1) w1 wr) (fun i _ => W.length - (intOf i).toNat)
        case atStart => exact ⟨0, Nat.zero_le _, rfl, HO0.out, hon⟩
        case round =>
          clear k0 k1 hcA HO0
          obtain ⟨b, hb, rfl, ho, hon2⟩ := hrel
          obtain ⟨⟨k0, k1⟩, _, _, j0, j1, hbr2⟩ := HF.out.next hon2
          by_cases hbn : b < W.length
          · have T := bit_test W[a] b (by omega)
            rw [← HBT.out b] at T
            cases hbt : bt W a b with
            | false =>
              rw [hbt] at T
              have hs := renSt_skip W os a b hbt
              rw [← hs] at ho
              have HO2 := Lib.hid ho
              clear ho hs hbt
              generalize W[a] = xa at *
              go_wp2
              go_roundw
              case rel => exact ⟨b + 1, by omega, by go_num, HO2.out, hon2⟩
              case measure => simp [intOf]; omega
            | true =>
              rw [hbt] at T
              obtain ⟨na, hpa⟩ := atN_cast os HO.out a (by have := HL.out; omega)
              obtain ⟨nb, hpb⟩ := atN_cast os HO.out b (by have := HL.out; omega)
              have hpa' : atN os a < W.length := by have := HL.out; omega
              have hpb' : atN os b < W.length := by have := HL.out; omega
              have hps : atN os a < (renSt W os a b).length := by rw [renSt_length]; exact hpa'
              obtain ⟨hst, hfree⟩ := renSt_step W os HL.out HO.out a b hlt hbn hbt hps
              have hr := renSt_lt W g8 os a b _ hps
              obtain ⟨g', eg', _, _, hcU, hfU⟩ := ho.nat hps
              simp only [Option.some.injEq, Addr.mk.injEq, and_true] at eg'
              subst eg'
              have ho3 := ho.set (atN os a) (.int .i64 (((renSt W os a b)[atN os a] ||| 2 ^ atN os b : Nat) : Int))
              rw [ints_casts_set, hst] at ho3
              have HO3 := Lib.hid ho3
              obtain ⟨bN, oN, eN, hbN, hcNa0⟩ := h'.int (k := a) (by have := HL.out; omega)
              subst eN
              obtain ⟨bN', oN', eN', _, hcNb0⟩ := h'.int (k := b) (by have := HL.out; omega)
              simp only [Option.some.injEq, Addr.mk.injEq, and_true] at eN'
              obtain ⟨rfl, rfl⟩ := eN'
              have hcNa := (hbr2.cell (p := ⟨bN, oN + a, none⟩) hbN).trans hcNa0
              have hcNb := (hbr2.cell (p := ⟨bN, oN + b, none⟩) hbN).trans hcNb0
              rw [na] at hcNa
              rw [nb] at hcNb
              obtain ⟨q1, q2⟩ := pow_small (atN os b) (by omega)
              have hw : IntKind.i64.wrap (2 ^ atN os b) = 2 ^ atN os b := by rw [IntKind.wrap_i64]; omega
              have E1 : ((( (renSt W os a b)[atN os a]'hps : Nat) : Int)) + 2 ^ atN os b = (((renSt W os a b)[atN os a]'hps ||| 2 ^ atN os b : Nat) : Int) := by rw [or_add _ _ hr (by omega) hfree, pow_cast]; omega
              have hv : (renSt W os a b)[atN os a]'hps ||| 2 ^ atN os b < 256 := Nat.or_lt_two_pow (n := 8) hr (Nat.pow_lt_pow_right (by omega) (by omega))
              have hwv : IntKind.i64.wrap (((renSt W os a b)[atN os a]'hps ||| 2 ^ atN os b : Nat) : Int) = (((renSt W os a b)[atN os a]'hps ||| 2 ^ atN os b : Nat) : Int) := by rw [IntKind.wrap_i64]; omega
              have HNE := Lib.hid HF.out.ne
              clear ho ho3 hst na nb hcNa0 hcNb0 hpa hpb hfree hbt
              generalize (renSt W os a b)[atN os a]'_ ||| 2 ^ atN os b = v at *
              generalize (renSt W os a b)[atN os a]'_ = u at *
              generalize atN os a = pa at *
              generalize atN os b = pb at *
              have t1 : (0 : Int) ≤ (a : Int) := by omega
              have t2 : (a : Int) < (W.length : Int) := by omega
              have t3 : (0 : Int) ≤ (b : Int) := by omega
              have t4 : (b : Int) < (W.length : Int) := by omega
              have t5 : (0 : Int) ≤ (pa : Int) := by omega
              have t6 : (pa : Int) < (W.length : Int) := by omega
              have t7 : (0 : Int) ≤ (pb : Int) := by omega
              generalize W[a] = xa at *
              go_wp2
              refine wp_region_held_drew (S := fun w' => w'.cell? ⟨gu, 1, none⟩ = some (.slice (some ⟨gw, 0, none⟩) W.length W.length) ∧ w'.cell? ⟨bN, oN + a, none⟩ = some (.int .i64 (pa : Int)) ∧ w'.cell? ⟨bN, oN + b, none⟩ = some (.int .i64 (pb : Int))) (by kernel_rfl) ?_ (fun hHeld => ?_)
              · (try dsimp only); exact ⟨j1, hcNa, hcNb⟩
              refine wpAnyH_take (i := 0) (v := ?_) rfl (by kernel_rfl) (by kernel_rfl) (by kernel_rfl) (fun _ _ _ h => h) (Or.inl ⟨by rfl, ?_⟩) (by assumption) ?_
              rotate_left
              · (intro wq hSw; (try dsimp only at hSw); (go_simp <;> with_reducible rfl))
              try simp only [Act.put, List.getElem_toArray, List.getElem_cons_zero, List.getElem_cons_succ, List.setIfInBounds_toArray, List.set_cons_zero, List.set_cons_succ]
              refine wpAnyH_take (i := 1) (v := ?_) rfl (by kernel_rfl) (by kernel_rfl) (by kernel_rfl) (fun _ _ _ h => h) (Or.inl ⟨by rfl, ?_⟩) (by assumption) ?_
              rotate_left
              · (intro wq hSw; (try dsimp only at hSw); (go_simp <;> with_reducible rfl))
              try simp only [Act.put, List.getElem_toArray, List.getElem_cons_zero, List.getElem_cons_succ, List.setIfInBounds_toArray, List.set_cons_zero, List.set_cons_succ]
              refine wpAnyH_take (i := 2) (v := ?_) rfl (by kernel_rfl) (by kernel_rfl) (by kernel_rfl) (fun _ _ _ h => h) (Or.inl ⟨by rfl, ?_⟩) (by assumption) ?_
              rotate_left
              · (intro wq hSw; (try dsimp only at hSw); (go_simp <;> with_reducible rfl))
              try simp only [Act.put, List.getElem_toArray, List.getElem_cons_zero, List.getElem_cons_succ, List.setIfInBounds_toArray, List.set_cons_zero, List.set_cons_succ]
              refine wpAnyH_take (i := 3) (v := ?_) rfl (by kernel_rfl) (by kernel_rfl) (by kernel_rfl) (fun _ _ _ h => h) (Or.inl ⟨by rfl, ?_⟩) (by assumption) ?_
              rotate_left
              · (intro wq hSw; (try dsimp only at hSw); (go_simp <;> with_reducible rfl))
              try simp only [Act.put, List.getElem_toArray, List.getElem_cons_zero, List.getElem_cons_succ, List.setIfInBounds_toArray, List.set_cons_zero, List.set_cons_succ]
              refine wpAnyH_take (i := 4) (v := ?_) rfl (by kernel_rfl) (by kernel_rfl) (by kernel_rfl) (fun _ _ _ h => h) (Or.inl ⟨by rfl, ?_⟩) (by assumption) ?_
              rotate_left
              · (intro wq hSw; (try dsimp only at hSw); (go_simp <;> with_reducible rfl))
              try simp only [Act.put, List.getElem_toArray, List.getElem_cons_zero, List.getElem_cons_succ, List.setIfInBounds_toArray, List.set_cons_zero, List.set_cons_succ]
              refine wpAnyH_take (i := 5) (v := ?_) rfl (by kernel_rfl) (by kernel_rfl) (by kernel_rfl) (fun _ _ _ h => h) (Or.inl ⟨by rfl, ?_⟩) (by assumption) ?_
              rotate_left
              · (intro wq hSw; (try dsimp only at hSw); (go_simp <;> with_reducible rfl))
              try simp only [Act.put, List.getElem_toArray, List.getElem_cons_zero, List.getElem_cons_succ, List.setIfInBounds_toArray, List.set_cons_zero, List.set_cons_succ]
              refine wpAnyH_take (i := 6) (v := ?_) rfl (by kernel_rfl) (by kernel_rfl) (by kernel_rfl) (fun _ _ _ h => h) (Or.inl ⟨by rfl, ?_⟩) (by assumption) ?_
              rotate_left
              · (intro wq hSw; (try dsimp only at hSw); (go_simp <;> with_reducible rfl))
              try simp only [Act.put, List.getElem_toArray, List.getElem_cons_zero, List.getElem_cons_succ, List.setIfInBounds_toArray, List.set_cons_zero, List.set_cons_succ]
              refine wpAnyH_take (i := 7) (v := ?_) rfl (by kernel_rfl) (by kernel_rfl) (by kernel_rfl) (fun _ _ _ h => h) (Or.inl ⟨by rfl, ?_⟩) (by assumption) ?_
              rotate_left
              · (intro wq hSw; (try dsimp only at hSw); (go_simp <;> with_reducible rfl))
              try simp only [Act.put, List.getElem_toArray, List.getElem_cons_zero, List.getElem_cons_succ, List.setIfInBounds_toArray, List.set_cons_zero, List.set_cons_succ]
              refine wpAnyH_take (i := 8) (v := ?_) rfl (by kernel_rfl) (by kernel_rfl) (by kernel_rfl) (fun _ _ _ h => h) (Or.inl ⟨by rfl, ?_⟩) (by assumption) ?_
              rotate_left
              · (intro wq hSw; (try dsimp only at hSw); (go_simp <;> with_reducible rfl))
              try simp only [Act.put, List.getElem_toArray, List.getElem_cons_zero, List.getElem_cons_succ, List.setIfInBounds_toArray, List.set_cons_zero, List.set_cons_succ]
              refine wpAnyH_take (i := 9) (v := ?_) rfl (by kernel_rfl) (by kernel_rfl) (by kernel_rfl) (fun _ _ _ h => h) (Or.inl ⟨by rfl, ?_⟩) (by assumption) ?_
              rotate_left
              · (intro wq hSw; (try dsimp only at hSw); (go_simp <;> with_reducible rfl))
              try simp only [Act.put, List.getElem_toArray, List.getElem_cons_zero, List.getElem_cons_succ, List.setIfInBounds_toArray, List.set_cons_zero, List.set_cons_succ]
              refine wpAnyH_take (i := 10) (v := ?_) rfl (by kernel_rfl) (by kernel_rfl) (by kernel_rfl) (fun _ _ _ h => h) (Or.inl ⟨by rfl, ?_⟩) (by assumption) ?_
              rotate_left
              · (intro wq hSw; (try dsimp only at hSw); (go_simp <;> with_reducible rfl))
              try simp only [Act.put, List.getElem_toArray, List.getElem_cons_zero, List.getElem_cons_succ, List.setIfInBounds_toArray, List.set_cons_zero, List.set_cons_succ]
              refine wpAnyH_take (i := 11) (v := ?_) rfl (by kernel_rfl) (by kernel_rfl) (by kernel_rfl) (fun _ _ _ h => h) (Or.inl ⟨by rfl, ?_⟩) (by assumption) ?_
              rotate_left
              · (intro wq hSw; (try dsimp only at hSw); (go_simp <;> with_reducible rfl))
              try simp only [Act.put, List.getElem_toArray, List.getElem_cons_zero, List.getElem_cons_succ, List.setIfInBounds_toArray, List.set_cons_zero, List.set_cons_succ]
              refine wpAnyH_take (i := 12) (v := ?_) rfl (by kernel_rfl) (by kernel_rfl) (by kernel_rfl) (fun _ _ _ h => h) (Or.inl ⟨by rfl, ?_⟩) (by assumption) ?_
              rotate_left
              · (intro wq hSw; (try dsimp only at hSw); (go_simp <;> with_reducible rfl))
              try simp only [Act.put, List.getElem_toArray, List.getElem_cons_zero, List.getElem_cons_succ, List.setIfInBounds_toArray, List.set_cons_zero, List.set_cons_succ]
              refine wpAnyH_take (i := 14) (v := ?_) rfl (by kernel_rfl) (by kernel_rfl) (by kernel_rfl) (fun _ _ _ h => h) (Or.inl ⟨by rfl, ?_⟩) (by assumption) ?_
              rotate_left
              · (intro wq hSw; (try dsimp only at hSw); (go_simp <;> with_reducible rfl))
              try simp only [Act.put, List.getElem_toArray, List.getElem_cons_zero, List.getElem_cons_succ, List.setIfInBounds_toArray, List.set_cons_zero, List.set_cons_succ]
              refine wpAnyH_take (i := 15) (v := ?_) rfl (by kernel_rfl) (by kernel_rfl) (by kernel_rfl) (fun _ _ _ h => h) (Or.inl ⟨by rfl, ?_⟩) (by assumption) ?_
              rotate_left
              · (intro wq hSw; (try dsimp only at hSw); (go_simp <;> with_reducible rfl))
              try simp only [Act.put, List.getElem_toArray, List.getElem_cons_zero, List.getElem_cons_succ, List.setIfInBounds_toArray, List.set_cons_zero, List.set_cons_succ]
              refine wpAnyH_take (i := 16) (v := ?_) rfl (by kernel_rfl) (by kernel_rfl) (by kernel_rfl) (fun _ _ _ h => h) (Or.inl ⟨by rfl, ?_⟩) (by assumption) ?_
              rotate_left
              · (intro wq hSw; (try dsimp only at hSw); (go_simp <;> with_reducible rfl))
              try simp only [Act.put, List.getElem_toArray, List.getElem_cons_zero, List.getElem_cons_succ, List.setIfInBounds_toArray, List.set_cons_zero, List.set_cons_succ]
              refine wpAnyH_take (i := 17) (v := ?_) rfl (by kernel_rfl) (by kernel_rfl) (by kernel_rfl) (fun _ _ _ h => h) (Or.inl ⟨by rfl, ?_⟩) (by assumption) ?_
              rotate_left
              · (intro wq hSw; (try dsimp only at hSw); (go_simp <;> with_reducible rfl))
              try simp only [Act.put, List.getElem_toArray, List.getElem_cons_zero, List.getElem_cons_succ, List.setIfInBounds_toArray, List.set_cons_zero, List.set_cons_succ]
              refine wpAnyH_take (i := 18) (v := ?_) rfl (by kernel_rfl) (by kernel_rfl) (by kernel_rfl) (fun _ _ _ h => h) (Or.inl ⟨by rfl, ?_⟩) (by assumption) ?_
              rotate_left
              · (intro wq hSw; (try dsimp only at hSw); (go_simp <;> with_reducible rfl))
              try simp only [Act.put, List.getElem_toArray, List.getElem_cons_zero, List.getElem_cons_succ, List.setIfInBounds_toArray, List.set_cons_zero, List.set_cons_succ]
              refine wpAnyH_ready (rs := [13]) (by kernel_rfl) (by simp) ?_
              refine AllReadyH.cons rfl (fun K hK => ?_) AllReadyH.nil
              go_simp
              skip
              refine hK.out _ _ ?_ (fun hHeld => ?_)
              · (try dsimp only); exact ⟨j1, hcNa, hcNb⟩
              clear hK K
              try simp only [Act.put, List.getElem_toArray, List.getElem_cons_zero, List.getElem_cons_succ, List.setIfInBounds_toArray, List.set_cons_zero, List.set_cons_succ]
              refine wpAnyH_take (i := 19) (v := ?_) rfl (by kernel_rfl) (by kernel_rfl) (by kernel_rfl) (fun _ _ _ h => h) (Or.inl ⟨by rfl, ?_⟩) (by assumption) ?_
              rotate_left
              · (intro wq hSw; (try dsimp only at hSw); (go_simp <;> with_reducible rfl))
              try simp only [Act.put, List.getElem_toArray, List.getElem_cons_zero, List.getElem_cons_succ, List.setIfInBounds_toArray, List.set_cons_zero, List.set_cons_succ]
              refine wpAnyH_take (i := 20) (v := ?_) rfl (by kernel_rfl) (by kernel_rfl) (by kernel_rfl) (fun _ _ _ h => h) (Or.inl ⟨by rfl, ?_⟩) (by assumption) ?_
              rotate_left
              · (intro wq hSw; (try dsimp only at hSw); (go_simp <;> with_reducible rfl))
              try simp only [Act.put, List.getElem_toArray, List.getElem_cons_zero, List.getElem_cons_succ, List.setIfInBounds_toArray, List.set_cons_zero, List.set_cons_succ]
              refine wpAnyH_ready (rs := [21]) (by kernel_rfl) (by simp) ?_
              refine AllReadyH.cons rfl (fun K hK => ?_) AllReadyH.nil
              go_simp
              skip
              refine hK.out _ _ ?_ (fun hHeld => ?_)
              · (try dsimp only); exact ⟨(World.cell?_setCell_other wr _ _ _ (fun e => by simp only [Addr.mk.injEq] at e; have := HNE.out; omega)).trans j1, (World.cell?_setCell_other wr _ _ _ (fun e => by simp only [Addr.mk.injEq] at e; omega)).trans hcNa, (World.cell?_setCell_other wr _ _ _ (fun e => by simp only [Addr.mk.injEq] at e; omega)).trans hcNb⟩
              clear hK K
              try simp only [Act.put, List.getElem_toArray, List.getElem_cons_zero, List.getElem_cons_succ, List.setIfInBounds_toArray, List.set_cons_zero, List.set_cons_succ]
              refine wpAnyH_done (by kernel_rfl) ?_ _
              go_wp2
              go_roundw
              case rel => exact ⟨b + 1, by omega, by go_num, HO3.out, (hon2.setCell (p := ⟨gw, pa, none⟩) (Nat.le_refl _) (Nat.lt_succ_self _) _).drew⟩
              case measure => simp [intOf]; omega
          · obtain rfl : b = W.length := by omega
            rw [renSt_next W HT.out] at ho
            have HO2 := Lib.hid ho
            clear ho
            go_wp2
            go_roundw
            case rel => exact ⟨a + 1, by omega, by go_num, HO2.out, hon2⟩
            case measure => simp [intOf]; omega
      · obtain rfl : a = W.length := by omega
        have HO1 : Hid (Own wr gw (gw + 1) 3 (some ⟨gw, 0, none⟩) W.length (ints (casts (renW W os)))) := Lib.hid (by rw [← renSt_end]; exact HO0.out)
        have hsz := hon.size
        clear HO0
        go_wp2
        refine bodyPost_ret (v := .agg #[.int .i64 (W.length : Int), .slice (some ⟨gw, 0, none⟩) W.length W.length]) (by simp [results, Try.results75, go_sem, r0, r1]) rfl ⟨some ⟨gw, 0, none⟩, W.length, ?_, ?_, ?_⟩
        · rw [casts_length, renW_length]
        · refine Own.mono (Own.setCell (Own.setCell HO1.out ?_ _) ?_ _) (by omega) (by simp; omega)
          all_goals (left; show w.heap.size + 1 < gw; omega)
        · refine (hbr.setCell ?_ _).setCell ?_ _
          all_goals (show _ ≤ _; simp)
  · obtain ⟨w1, hw1⟩ : ∃ w1, w1 = ((w0.alloc (.cells #[.int .i64 (W.length : Int), .slice (some ⟨w0.heap.size + 1, 0, none⟩) W.length W.length] 26)).alloc (.cells (madeCells #[.int .i64 0] W.length) 3)).drew := ⟨_, rfl⟩
    rw [← hw1]
    have HF : Hid (RenF w w1 (w0.heap.size + 1) w0.heap.size W.length A c) := Lib.hid (HRF.out w1 _ _ (by rw [hw1]; exact (((Below.refl _ _).alloc (Nat.le_refl _) _).alloc (by simp) _).drew) (by omega) (by omega) (Nat.le_refl _) (by rw [hw1]; simp) (by rw [hw1]; simp; omega) (by rw [hw1]; exact (World.cell?_alloc_lt _ _ ⟨w0.heap.size, 0, none⟩ (by simp)).trans (by go_simp)) (by rw [hw1]; exact (World.cell?_alloc_lt _ _ ⟨w0.heap.size, 1, none⟩ (by simp)).trans (by go_simp)) (by
      rw [hw1]
      have hm := own_made (w0.alloc (.cells #[.int .i64 (W.length : Int), .slice (some ⟨w0.heap.size + 1, 0, none⟩) W.length W.length] 26)) (w0.heap.size + 1) W.length (by simp) (by omega)
      rw [World.size_alloc] at hm
      exact hm.drew))
    obtain ⟨gw, hgw⟩ : ∃ g, g = w0.heap.size + 1 := ⟨_, rfl⟩
    obtain ⟨gu, hgu⟩ : ∃ g, g = w0.heap.size := ⟨_, rfl⟩
    have HF : Hid (RenF w w1 gw gu W.length A c) := Lib.hid (by rw [hgu, hgw]; exact HF.out)
    rw [← hgw, ← hgu]
    clear hw1 hgu hgw k0 k1 HK HRF
    have k0 := HF.out.k0
    have k1 := HF.out.k1
    have hlw := HF.out.lw
    have hlu := HF.out.lu
    have hgu := HF.out.hu
    have hgw := HF.out.hw
    go_wp2
    go_loopw [18] (fun i wr => ∃ a : Nat, a ≤ W.length ∧ i = .int .i64 (a : Int) ∧ Own wr gw (gw + 1) 3 (some ⟨gw, 0, none⟩) W.length (ints (casts (renSt W os a 0))) ∧ Only gw (gw + 1) w1 wr) (fun i _ => W.length - (intOf i).toNat)
    case atStart => exact ⟨0, Nat.zero_le _, rfl, by rw [renSt_zero]; exact HF.out.own, Only.refl _ _ _⟩
    case round =>
      clear k0 k1
      obtain ⟨a, ha, rfl, ho, hon⟩ := hrel
      obtain ⟨⟨k0, k1⟩, ⟨r0, r1⟩, ⟨f0, f1⟩, j0, j1, hbr⟩ := HF.out.next hon
      have HO0 := Lib.hid ho
      clear ho
      by_cases hlt : a < W.length
      · obtain ⟨bA, oA, eA, _, hcA⟩ := (h.rowAt hbr (Nat.le_refl _)).nat hlt
        subst eA
        have hxa := HT.out.lt256' hlt
        have HBT := Lib.hid (fun b => @bt_lt W a b hlt)
        clear r0 r1 f0 f1 j0 j1
        go_wp2
        obtain ⟨wo, rfl⟩ : ∃ wo : World, wo = wr := ⟨_, rfl⟩
        go_loopw [26] (fun i wr => ∃ b : Nat, b ≤ W.length ∧ i = .int .i64 (b : Int) ∧ Own wr gw (gw + 1) 3 (some ⟨gw, 0, none⟩) W.length (ints (casts (renSt W os a b))) ∧ Only gw (gw + 1) w1 wr) (fun i _ => W.length - (intOf i).toNat)
        case atStart => exact ⟨0, Nat.zero_le _, rfl, HO0.out, hon⟩
        case round =>
          clear k0 k1 hcA HO0
          obtain ⟨b, hb, rfl, ho, hon2⟩ := hrel
          obtain ⟨⟨k0, k1⟩, _, _, j0, j1, hbr2⟩ := HF.out.next hon2
          by_cases hbn : b < W.length
          · have T := bit_test W[a] b (by omega)
            rw [← HBT.out b] at T
            cases hbt : bt W a b with
            | false =>
              rw [hbt] at T
              have hs := renSt_skip W os a b hbt
              rw [← hs] at ho
              have HO2 := Lib.hid ho
              clear ho hs hbt
              generalize W[a] = xa at *
              go_wp2
              go_roundw
              case rel => exact ⟨b + 1, by omega, by go_num, HO2.out, hon2⟩
              case measure => simp [intOf]; omega
            | true =>
              rw [hbt] at T
              obtain ⟨na, hpa⟩ := atN_cast os HO.out a (by have := HL.out; omega)
              obtain ⟨nb, hpb⟩ := atN_cast os HO.out b (by have := HL.out; omega)
              have hpa' : atN os a < W.length := by have := HL.out; omega
              have hpb' : atN os b < W.length := by have := HL.out; omega
              have hps : atN os a < (renSt W os a b).length := by rw [renSt_length]; exact hpa'
              obtain ⟨hst, hfree⟩ := renSt_step W os HL.out HO.out a b hlt hbn hbt hps
              have hr := renSt_lt W g8 os a b _ hps
              obtain ⟨g', eg', _, _, hcU, hfU⟩ := ho.nat hps
              simp only [Option.some.injEq, Addr.mk.injEq, and_true] at eg'
              subst eg'
              have ho3 := ho.set (atN os a) (.int .i64 (((renSt W os a b)[atN os a] ||| 2 ^ atN os b : Nat) : Int))
              rw [ints_casts_set, hst] at ho3
              have HO3 := Lib.hid ho3
              obtain ⟨bN, oN, eN, hbN, hcNa0⟩ := h'.int (k := a) (by have := HL.out; omega)
              subst eN
              obtain ⟨bN', oN', eN', _, hcNb0⟩ := h'.int (k := b) (by have := HL.out; omega)
              simp only [Option.some.injEq, Addr.mk.injEq, and_true] at eN'
              obtain ⟨rfl, rfl⟩ := eN'
              have hcNa := (hbr2.cell (p := ⟨bN, oN + a, none⟩) hbN).trans hcNa0
              have hcNb := (hbr2.cell (p := ⟨bN, oN + b, none⟩) hbN).trans hcNb0
              rw [na] at hcNa
              rw [nb] at hcNb
              obtain ⟨q1, q2⟩ := pow_small (atN os b) (by omega)
              have hw : IntKind.i64.wrap (2 ^ atN os b) = 2 ^ atN os b := by rw [IntKind.wrap_i64]; omega
              have E1 : ((( (renSt W os a b)[atN os a]'hps : Nat) : Int)) + 2 ^ atN os b = (((renSt W os a b)[atN os a]'hps ||| 2 ^ atN os b : Nat) : Int) := by rw [or_add _ _ hr (by omega) hfree, pow_cast]; omega
              have hv : (renSt W os a b)[atN os a]'hps ||| 2 ^ atN os b < 256 := Nat.or_lt_two_pow (n := 8) hr (Nat.pow_lt_pow_right (by omega) (by omega))
              have hwv : IntKind.i64.wrap (((renSt W os a b)[atN os a]'hps ||| 2 ^ atN os b : Nat) : Int) = (((renSt W os a b)[atN os a]'hps ||| 2 ^ atN os b : Nat) : Int) := by rw [IntKind.wrap_i64]; omega
              have HNE := Lib.hid HF.out.ne
              clear ho ho3 hst na nb hcNa0 hcNb0 hpa hpb hfree hbt
              generalize (renSt W os a b)[atN os a]'_ ||| 2 ^ atN os b = v at *
              generalize (renSt W os a b)[atN os a]'_ = u at *
              generalize atN os a = pa at *
              generalize atN os b = pb at *
              have t1 : (0 : Int) ≤ (a : Int) := by omega
              have t2 : (a : Int) < (W.length : Int) := by omega
              have t3 : (0 : Int) ≤ (b : Int) := by omega
              have t4 : (b : Int) < (W.length : Int) := by omega
              have t5 : (0 : Int) ≤ (pa : Int) := by omega
              have t6 : (pa : Int) < (W.length : Int) := by omega
              have t7 : (0 : Int) ≤ (pb : Int) := by omega
              generalize W[a] = xa at *
              go_wp2
              refine wp_region_held_drew (S := fun w' => w'.cell? ⟨gu, 1, none⟩ = some (.slice (some ⟨gw, 0, none⟩) W.length W.length) ∧ w'.cell? ⟨bN, oN + a, none⟩ = some (.int .i64 (pa : Int)) ∧ w'.cell? ⟨bN, oN + b, none⟩ = some (.int .i64 (pb : Int))) (by kernel_rfl) ?_ (fun hHeld => ?_)
              · (try dsimp only); exact ⟨j1, hcNa, hcNb⟩
              refine wpAnyH_take (i := 0) (v := ?_) rfl (by kernel_rfl) (by kernel_rfl) (by kernel_rfl) (fun _ _ _ h => h) (Or.inl ⟨by rfl, ?_⟩) (by assumption) ?_
              rotate_left
              · (intro wq hSw; (try dsimp only at hSw); (go_simp <;> with_reducible rfl))
              try simp only [Act.put, List.getElem_toArray, List.getElem_cons_zero, List.getElem_cons_succ, List.setIfInBounds_toArray, List.set_cons_zero, List.set_cons_succ]
              refine wpAnyH_take (i := 1) (v := ?_) rfl (by kernel_rfl) (by kernel_rfl) (by kernel_rfl) (fun _ _ _ h => h) (Or.inl ⟨by rfl, ?_⟩) (by assumption) ?_
              rotate_left
              · (intro wq hSw; (try dsimp only at hSw); (go_simp <;> with_reducible rfl))
              try simp only [Act.put, List.getElem_toArray, List.getElem_cons_zero, List.getElem_cons_succ, List.setIfInBounds_toArray, List.set_cons_zero, List.set_cons_succ]
              refine wpAnyH_take (i := 2) (v := ?_) rfl (by kernel_rfl) (by kernel_rfl) (by kernel_rfl) (fun _ _ _ h => h) (Or.inl ⟨by rfl, ?_⟩) (by assumption) ?_
              rotate_left
              · (intro wq hSw; (try dsimp only at hSw); (go_simp <;> with_reducible rfl))
              try simp only [Act.put, List.getElem_toArray, List.getElem_cons_zero, List.getElem_cons_succ, List.setIfInBounds_toArray, List.set_cons_zero, List.set_cons_succ]
              refine wpAnyH_take (i := 3) (v := ?_) rfl (by kernel_rfl) (by kernel_rfl) (by kernel_rfl) (fun _ _ _ h => h) (Or.inl ⟨by rfl, ?_⟩) (by assumption) ?_
              rotate_left
              · (intro wq hSw; (try dsimp only at hSw); (go_simp <;> with_reducible rfl))
              try simp only [Act.put, List.getElem_toArray, List.getElem_cons_zero, List.getElem_cons_succ, List.setIfInBounds_toArray, List.set_cons_zero, List.set_cons_succ]
              refine wpAnyH_take (i := 4) (v := ?_) rfl (by kernel_rfl) (by kernel_rfl) (by kernel_rfl) (fun _ _ _ h => h) (Or.inl ⟨by rfl, ?_⟩) (by assumption) ?_
              rotate_left
              · (intro wq hSw; (try dsimp only at hSw); (go_simp <;> with_reducible rfl))
              try simp only [Act.put, List.getElem_toArray, List.getElem_cons_zero, List.getElem_cons_succ, List.setIfInBounds_toArray, List.set_cons_zero, List.set_cons_succ]
              refine wpAnyH_take (i := 5) (v := ?_) rfl (by kernel_rfl) (by kernel_rfl) (by kernel_rfl) (fun _ _ _ h => h) (Or.inl ⟨by rfl, ?_⟩) (by assumption) ?_
              rotate_left
              · (intro wq hSw; (try dsimp only at hSw); (go_simp <;> with_reducible rfl))
              try simp only [Act.put, List.getElem_toArray, List.getElem_cons_zero, List.getElem_cons_succ, List.setIfInBounds_toArray, List.set_cons_zero, List.set_cons_succ]
              refine wpAnyH_take (i := 6) (v := ?_) rfl (by kernel_rfl) (by kernel_rfl) (by kernel_rfl) (fun _ _ _ h => h) (Or.inl ⟨by rfl, ?_⟩) (by assumption) ?_
              rotate_left
              · (intro wq hSw; (try dsimp only at hSw); (go_simp <;> with_reducible rfl))
              try simp only [Act.put, List.getElem_toArray, List.getElem_cons_zero, List.getElem_cons_succ, List.setIfInBounds_toArray, List.set_cons_zero, List.set_cons_succ]
              refine wpAnyH_take (i := 7) (v := ?_) rfl (by kernel_rfl) (by kernel_rfl) (by kernel_rfl) (fun _ _ _ h => h) (Or.inl ⟨by rfl, ?_⟩) (by assumption) ?_
              rotate_left
              · (intro wq hSw; (try dsimp only at hSw); (go_simp <;> with_reducible rfl))
              try simp only [Act.put, List.getElem_toArray, List.getElem_cons_zero, List.getElem_cons_succ, List.setIfInBounds_toArray, List.set_cons_zero, List.set_cons_succ]
              refine wpAnyH_take (i := 8) (v := ?_) rfl (by kernel_rfl) (by kernel_rfl) (by kernel_rfl) (fun _ _ _ h => h) (Or.inl ⟨by rfl, ?_⟩) (by assumption) ?_
              rotate_left
              · (intro wq hSw; (try dsimp only at hSw); (go_simp <;> with_reducible rfl))
              try simp only [Act.put, List.getElem_toArray, List.getElem_cons_zero, List.getElem_cons_succ, List.setIfInBounds_toArray, List.set_cons_zero, List.set_cons_succ]
              refine wpAnyH_take (i := 9) (v := ?_) rfl (by kernel_rfl) (by kernel_rfl) (by kernel_rfl) (fun _ _ _ h => h) (Or.inl ⟨by rfl, ?_⟩) (by assumption) ?_
              rotate_left
              · (intro wq hSw; (try dsimp only at hSw); (go_simp <;> with_reducible rfl))
              try simp only [Act.put, List.getElem_toArray, List.getElem_cons_zero, List.getElem_cons_succ, List.setIfInBounds_toArray, List.set_cons_zero, List.set_cons_succ]
              refine wpAnyH_take (i := 10) (v := ?_) rfl (by kernel_rfl) (by kernel_rfl) (by kernel_rfl) (fun _ _ _ h => h) (Or.inl ⟨by rfl, ?_⟩) (by assumption) ?_
              rotate_left
              · (intro wq hSw; (try dsimp only at hSw); (go_simp <;> with_reducible rfl))
              try simp only [Act.put, List.getElem_toArray, List.getElem_cons_zero, List.getElem_cons_succ, List.setIfInBounds_toArray, List.set_cons_zero, List.set_cons_succ]
              refine wpAnyH_take (i := 11) (v := ?_) rfl (by kernel_rfl) (by kernel_rfl) (by kernel_rfl) (fun _ _ _ h => h) (Or.inl ⟨by rfl, ?_⟩) (by assumption) ?_
              rotate_left
              · (intro wq hSw; (try dsimp only at hSw); (go_simp <;> with_reducible rfl))
              try simp only [Act.put, List.getElem_toArray, List.getElem_cons_zero, List.getElem_cons_succ, List.setIfInBounds_toArray, List.set_cons_zero, List.set_cons_succ]
              refine wpAnyH_take (i := 12) (v := ?_) rfl (by kernel_rfl) (by kernel_rfl) (by kernel_rfl) (fun _ _ _ h => h) (Or.inl ⟨by rfl, ?_⟩) (by assumption) ?_
              rotate_left
              · (intro wq hSw; (try dsimp only at hSw); (go_simp <;> with_reducible rfl))
              try simp only [Act.put, List.getElem_toArray, List.getElem_cons_zero, List.getElem_cons_succ, List.setIfInBounds_toArray, List.set_cons_zero, List.set_cons_succ]
              refine wpAnyH_take (i := 14) (v := ?_) rfl (by kernel_rfl) (by kernel_rfl) (by kernel_rfl) (fun _ _ _ h => h) (Or.inl ⟨by rfl, ?_⟩) (by assumption) ?_
              rotate_left
              · (intro wq hSw; (try dsimp only at hSw); (go_simp <;> with_reducible rfl))
              try simp only [Act.put, List.getElem_toArray, List.getElem_cons_zero, List.getElem_cons_succ, List.setIfInBounds_toArray, List.set_cons_zero, List.set_cons_succ]
              refine wpAnyH_take (i := 15) (v := ?_) rfl (by kernel_rfl) (by kernel_rfl) (by kernel_rfl) (fun _ _ _ h => h) (Or.inl ⟨by rfl, ?_⟩) (by assumption) ?_
              rotate_left
              · (intro wq hSw; (try dsimp only at hSw); (go_simp <;> with_reducible rfl))
              try simp only [Act.put, List.getElem_toArray, List.getElem_cons_zero, List.getElem_cons_succ, List.setIfInBounds_toArray, List.set_cons_zero, List.set_cons_succ]
              refine wpAnyH_take (i := 16) (v := ?_) rfl (by kernel_rfl) (by kernel_rfl) (by kernel_rfl) (fun _ _ _ h => h) (Or.inl ⟨by rfl, ?_⟩) (by assumption) ?_
              rotate_left
              · (intro wq hSw; (try dsimp only at hSw); (go_simp <;> with_reducible rfl))
              try simp only [Act.put, List.getElem_toArray, List.getElem_cons_zero, List.getElem_cons_succ, List.setIfInBounds_toArray, List.set_cons_zero, List.set_cons_succ]
              refine wpAnyH_take (i := 17) (v := ?_) rfl (by kernel_rfl) (by kernel_rfl) (by kernel_rfl) (fun _ _ _ h => h) (Or.inl ⟨by rfl, ?_⟩) (by assumption) ?_
              rotate_left
              · (intro wq hSw; (try dsimp only at hSw); (go_simp <;> with_reducible rfl))
              try simp only [Act.put, List.getElem_toArray, List.getElem_cons_zero, List.getElem_cons_succ, List.setIfInBounds_toArray, List.set_cons_zero, List.set_cons_succ]
              refine wpAnyH_take (i := 18) (v := ?_) rfl (by kernel_rfl) (by kernel_rfl) (by kernel_rfl) (fun _ _ _ h => h) (Or.inl ⟨by rfl, ?_⟩) (by assumption) ?_
              rotate_left
              · (intro wq hSw; (try dsimp only at hSw); (go_simp <;> with_reducible rfl))
              try simp only [Act.put, List.getElem_toArray, List.getElem_cons_zero, List.getElem_cons_succ, List.setIfInBounds_toArray, List.set_cons_zero, List.set_cons_succ]
              refine wpAnyH_ready (rs := [13]) (by kernel_rfl) (by simp) ?_
              refine AllReadyH.cons rfl (fun K hK => ?_) AllReadyH.nil
              go_simp
              skip
              refine hK.out _ _ ?_ (fun hHeld => ?_)
              · (try dsimp only); exact ⟨j1, hcNa, hcNb⟩
              clear hK K
              try simp only [Act.put, List.getElem_toArray, List.getElem_cons_zero, List.getElem_cons_succ, List.setIfInBounds_toArray, List.set_cons_zero, List.set_cons_succ]
              refine wpAnyH_take (i := 19) (v := ?_) rfl (by kernel_rfl) (by kernel_rfl) (by kernel_rfl) (fun _ _ _ h => h) (Or.inl ⟨by rfl, ?_⟩) (by assumption) ?_
              rotate_left
              · (intro wq hSw; (try dsimp only at hSw); (go_simp <;> with_reducible rfl))
              try simp only [Act.put, List.getElem_toArray, List.getElem_cons_zero, List.getElem_cons_succ, List.setIfInBounds_toArray, List.set_cons_zero, List.set_cons_succ]
              refine wpAnyH_take (i := 20) (v := ?_) rfl (by kernel_rfl) (by kernel_rfl) (by kernel_rfl) (fun _ _ _ h => h) (Or.inl ⟨by rfl, ?_⟩) (by assumption) ?_
              rotate_left
              · (intro wq hSw; (try dsimp only at hSw); (go_simp <;> with_reducible rfl))
              try simp only [Act.put, List.getElem_toArray, List.getElem_cons_zero, List.getElem_cons_succ, List.setIfInBounds_toArray, List.set_cons_zero, List.set_cons_succ]
              refine wpAnyH_ready (rs := [21]) (by kernel_rfl) (by simp) ?_
              refine AllReadyH.cons rfl (fun K hK => ?_) AllReadyH.nil
              go_simp
              skip
              refine hK.out _ _ ?_ (fun hHeld => ?_)
              · (try dsimp only); exact ⟨(World.cell?_setCell_other wr _ _ _ (fun e => by simp only [Addr.mk.injEq] at e; have := HNE.out; omega)).trans j1, (World.cell?_setCell_other wr _ _ _ (fun e => by simp only [Addr.mk.injEq] at e; omega)).trans hcNa, (World.cell?_setCell_other wr _ _ _ (fun e => by simp only [Addr.mk.injEq] at e; omega)).trans hcNb⟩
              clear hK K
              try simp only [Act.put, List.getElem_toArray, List.getElem_cons_zero, List.getElem_cons_succ, List.setIfInBounds_toArray, List.set_cons_zero, List.set_cons_succ]
              refine wpAnyH_done (by kernel_rfl) ?_ _
              go_wp2
              go_roundw
              case rel => exact ⟨b + 1, by omega, by go_num, HO3.out, (hon2.setCell (p := ⟨gw, pa, none⟩) (Nat.le_refl _) (Nat.lt_succ_self _) _).drew⟩
              case measure => simp [intOf]; omega
          · obtain rfl : b = W.length := by omega
            rw [renSt_next W HT.out] at ho
            have HO2 := Lib.hid ho
            clear ho
            go_wp2
            go_roundw
            case rel => exact ⟨a + 1, by omega, by go_num, HO2.out, hon2⟩
            case measure => simp [intOf]; omega
      · obtain rfl : a = W.length := by omega
        have HO1 : Hid (Own wr gw (gw + 1) 3 (some ⟨gw, 0, none⟩) W.length (ints (casts (renW W os)))) := Lib.hid (by rw [← renSt_end]; exact HO0.out)
        have hsz := hon.size
        clear HO0
        go_wp2
        refine bodyPost_ret (v := .agg #[.int .i64 (W.length : Int), .slice (some ⟨gw, 0, none⟩) W.length W.length]) (by simp [results, Try.results75, go_sem, r0, r1]) rfl ⟨some ⟨gw, 0, none⟩, W.length, ?_, ?_, ?_⟩
        · rw [casts_length, renW_length]
        · refine Own.mono (Own.setCell (Own.setCell HO1.out ?_ _) ?_ _) (by omega) (by simp; omega)
          all_goals (left; show w.heap.size + 1 < gw; omega)
        · refine (hbr.setCell ?_ _).setCell ?_ _
          all_goals (show _ ≤ _; simp)
end Go.Proofs.Ytaocjjocncoahaa
