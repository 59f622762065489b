/- Ways and cycles through all players: countWays, countCycles, l06Count, l06Cycles, walked. -/
import Derived.Test.YtkdfjkocfejfjaaScore
import Derived.Test.YtkdfjkocfejfjaaDom
import Derived.Test.YtkdfjkocfejfjaaKings
import Derived.Test.YtkdfjkocfejfjaaBits2
namespace Go.Proofs.Ytkdfjkocfejfjaa
open Go.RowKit

/-- The number of ways from a through those that are left (f of them), each with its leaf's weight. -/
def wN (lf : Nat → Nat) (W : List Nat) : Nat → Nat → Nat → Nat
  | 0, a, _ => lf a
  | f + 1, a, left => ((mem 8 (W.getD a 0 &&& left)).map fun b => wN lf W f b (left - 2 ^ b)).sum
theorem sum_le8 (g : Nat → Nat) (m : Nat) (ms : List Nat) (h : ∀ b ∈ ms, g b ≤ m) (hl : ms.length ≤ 8) : (ms.map g).sum ≤ 8 * m := by
  have : (ms.map g).sum ≤ ms.length * m := by
    induction ms with
    | nil => simp
    | cons b ms ih =>
      have h1 := h b (by simp)
      have h2 := ih (fun x hx => h x (by simp [hx])) (by simp at hl; omega)
      simp only [List.map_cons, List.sum_cons, List.length_cons, Nat.add_mul, Nat.one_mul]
      omega
  exact Nat.le_trans this (Nat.mul_le_mul_right m hl)
theorem wN_le (lf : Nat → Nat) (W : List Nat) (h1 : ∀ a, lf a ≤ 1) (f a left : Nat) : wN lf W f a left ≤ 8 ^ f := by
  induction f generalizing a left with
  | zero => simpa [wN] using h1 a
  | succ f ih =>
    unfold wN
    have := sum_le8 (fun b => wN lf W f b (left - 2 ^ b)) (8 ^ f) (mem 8 (W.getD a 0 &&& left)) (fun b _ => ih b _) (by rw [mem_length]; exact pc_le 8 _)
    rw [Nat.pow_succ]
    omega
/-- The sum over the first k. -/
def sumK (g : Nat → Nat) (ms : List Nat) (k : Nat) : Nat := ((ms.take k).map g).sum
theorem sumK_succ (g : Nat → Nat) (ms : List Nat) (k : Nat) (h : k < ms.length) : sumK g ms (k + 1) = sumK g ms k + g ms[k] := by
  unfold sumK
  rw [List.take_succ_eq_append_getElem h, List.map_append, List.sum_append]
  simp
theorem sumK_end (g : Nat → Nat) (ms : List Nat) : sumK g ms ms.length = (ms.map g).sum := by simp [sumK]
theorem sumK_le (g : Nat → Nat) (m : Nat) (ms : List Nat) (h : ∀ b ∈ ms, g b ≤ m) (hl : ms.length ≤ 8) (k : Nat) : sumK g ms k ≤ 8 * m :=
  sum_le8 g m (ms.take k) (fun b hb => h b (List.mem_of_mem_take hb)) (Nat.le_trans (List.length_take_le' _ _) hl)
def lfOne (_ : Nat) : Nat := 1
def lfBack (W : List Nat) (a : Nat) : Nat := if bt W a 0 then 1 else 0
/-- What is left when one more has been met. -/
theorem left_step (W : List Nat) (hT : IsT W) (a left f b : Nat) (hl : left < 2 ^ W.length) (hf : pc 8 left = f + 1) (hb : b ∈ mem 8 (W.getD a 0 &&& left)) :
    b < W.length ∧ left - 2 ^ b < 2 ^ W.length ∧ pc 8 (left - 2 ^ b) = f ∧ left.testBit b = true := by
  have hm := (mem_mem 8 _ b).1 hb
  rw [Nat.testBit_and, Bool.and_eq_true] at hm
  have h256 : left < 256 := Nat.lt_of_lt_of_le hl (pow_le8 _ hT.h8)
  have hbn : b < W.length := by
    rcases Nat.lt_or_ge b W.length with h | h
    · exact h
    · have := Nat.testBit_lt_two_pow (Nat.lt_of_lt_of_le hl (Nat.pow_le_pow_right (by omega) h))
      rw [this] at hm; simp at hm
  have h8 := hT.h8
  refine ⟨hbn, Nat.lt_of_le_of_lt (Nat.sub_le _ _) hl, ?_, hm.2.2⟩
  have := pc_sub left b h256 (by omega) hm.2.2
  omega

theorem lfBack_le (W : List Nat) (a : Nat) : lfBack W a ≤ 1 := by unfold lfBack; split <;> omega
theorem lfBack_eq (W : List Nat) {a : Nat} (ha : a < W.length) (hx : W[a] < 9223372036854775808) : bits .and .i64 ((W[a] : Nat) : Int) 1 = ((lfBack W a : Nat) : Int) := by
  rw [and_one _ hx]
  unfold lfBack
  rw [bt_lt ha, Nat.testBit_zero]
  by_cases h : W[a] % 2 = 1
  · simp [h]
  · have : W[a] % 2 = 0 := by omega
    simp [this]
set_option maxHeartbeats 1000000 in
theorem l06Count_any (A : Option Addr) (c : Nat) (W : List Nat) (hT : IsT W) (f : Nat) : ∀ (a left : Nat) (w : World), Row w w.heap.size A (ints (casts W)) → a < W.length → left < 2 ^ W.length → pc 8 left = f → f ≤ 8 →
    Calls Try.prog 61 #[.agg #[.int .i64 (W.length : Int), .slice A W.length c], .int .i64 ((left + 2 ^ a : Nat) : Int), .int .i64 (a : Int)] w fun e w' => e = .returned (.int .i64 (wN lfOne W f a left : Nat)) ∧ Below w.heap.size w w' := by
  have g1 := hT.h1
  have g8 := hT.h8
  induction f with
  | zero =>
    intro a left w h ha hl hf _
    have h256 : left < 256 := Nat.lt_of_lt_of_le hl (pow_le8 _ g8)
    have h0 : left = 0 := (pc_zero left h256).1 hf
    subst h0
    obtain ⟨q1, q2⟩ := pow_small a (by omega)
    have e0 : ((0 + 2 ^ a : Nat) : Int) = 2 ^ a := by simp
    rw [e0]
    have hw1 : IntKind.i64.wrap (2 ^ a) = 2 ^ a := by rw [IntKind.wrap_i64]; omega
    clear e0
    go_enter Try.func61, Try.ntmps61
    go_wp2_with fail
    go_ret
    exact ⟨rfl, by go_grown⟩
  | succ f ih =>
    intro a left w h ha hl hf hf8
    have h256 : left < 256 := Nat.lt_of_lt_of_le hl (pow_le8 _ g8)
    have hne : left ≠ 0 := fun e => by subst e; simp [pc] at hf
    have e9 : ((left : Int) == 0) = false := by simp; omega
    obtain ⟨b0, off0, rfl, hb0, hc0⟩ := h.nat ha
    have hwa := hT.lt256' ha
    have E1 : bits .and .i64 (left : Int) ((W[a] : Nat) : Int) = ((W[a] &&& left : Nat) : Int) := by rw [and_nat _ _ (by omega) (by omega), Nat.and_comm]
    have HG : Hid (W.getD a 0 = W[a]) := Lib.hid (getD_lt _ _ _ ha)
    have HS := Lib.hid (fun b hb => left_step W hT a left f b hl hf hb)
    have hand : W[a] &&& left < 256 := Nat.lt_of_le_of_lt Nat.and_le_right h256
    have HW : Hid (wN lfOne W (f + 1) a left = ((mem 8 (W[a] &&& left)).map fun b => wN lfOne W f b (left - 2 ^ b)).sum) := Lib.hid (by rw [wN, HG.out])
    rw [HG.out] at HS
    have HB := Lib.hid (fun b => wN_le lfOne W (fun _ => Nat.le_refl 1) f b (left - 2 ^ b))
    have h8f : 8 ^ f ≤ 2097152 := Nat.le_trans (Nat.pow_le_pow_right (by omega) (show f ≤ 7 by omega)) (by decide)
    obtain ⟨q1, q2⟩ := pow_small a (by omega)
    have es : ((left + 2 ^ a : Nat) : Int) = (left : Int) + 2 ^ a := by simp
    have hw1 : IntKind.i64.wrap (2 ^ a) = 2 ^ a := by rw [IntKind.wrap_i64]; omega
    have ed : (left : Int) + 2 ^ a - 2 ^ a = left := by omega
    rw [es]
    have HSUB := Lib.hid (fun b (ht : left.testBit b = true) (hb : b < 8) => (sub_bit left b h256 hb ht).2)
    clear hf hl hwa HG es
    generalize hxx : W[a] &&& left = x at *
    have hc1 : w.cell? ⟨b0, off0 + a, none⟩ = some (.int .i64 (W[a] : Nat)) := hc0
    clear hxx
    go_enter Try.func61, Try.ntmps61
    go_wp2_with fail
    refine (l02List_any _ _ (by omega) (by omega)).mono ?_
    rintro e w1 ⟨B, d, rfl, ho, hb⟩
    rw [Int.toNat_natCast] at *
    rw [casts_length]
    obtain ⟨k0, k1, hbw, hsz⟩ := box1 hb
    have hr : Row w1 w1.heap.size B (ints (casts (mem 8 x))) := ho.row
    have hW1 := h.rowAt hbw (Nat.le_refl _)
    have hml : (mem 8 x).length ≤ 8 := by rw [mem_length]; exact pc_le 8 _
    generalize mem 8 x = ms at *
    have HK := Lib.hid (sumK_succ (fun b => wN lfOne W f b (left - 2 ^ b)) ms)
    have HL := Lib.hid (sumK_le (fun b => wN lfOne W f b (left - 2 ^ b)) (8 ^ f) ms (fun b _ => HB.out b) hml)
    have HE := Lib.hid (sumK_end (fun b => wN lfOne W f b (left - 2 ^ b)) ms)
    clear ho hb h hc0 hc1 E1 hand ed q1 q2 hw1
    go_wp2
    go_loopw [8, 26] (fun v i wr => ∃ (k : Nat), k ≤ ms.length ∧ i = .int .i64 k ∧ v = .int .i64 (sumK (fun b => wN lfOne W f b (left - 2 ^ b)) ms k : Nat) ∧ Below w1.heap.size w1 wr) (fun _ i _ => ms.length - (intOf i).toNat)
    case atStart => exact ⟨0, Nat.zero_le _, rfl, rfl, Below.refl _ _⟩
    case round =>
      obtain ⟨k, hk, rfl, rfl, hbr⟩ := hrel
      by_cases hlt : k < ms.length
      · obtain ⟨b, off, rfl, _, hc⟩ := (hr.rowAt hbr (Nat.le_refl _)).nat hlt
        obtain ⟨c0, c1⟩ := held_at k0 k1 hbr
        obtain ⟨s1, s2, s3, s4⟩ := HS.out ms[k] (List.getElem_mem hlt)
        have HK1 := Lib.hid (HK.out k hlt)
        have hle1 := HL.out k
        have hle2 := HL.out (k + 1)
        generalize ms[k] = y at *
        have hcall := Lib.hid (fun W' hr' => ih y (left - 2 ^ y) W' hr' s1 s2 s3 (by omega))
        rw [Nat.sub_add_cancel (HSUB.out y s4 (by omega))] at hcall
        rw [HK1.out] at hle2
        clear ih s2 s3 s4
        go_wp2_with fail
        refine (hcall.out _ (hW1.rowAt hbr (Nat.le_refl _))).mono ?_
        rintro e wq ⟨rfl, hbq⟩
        have hb2 := below_trans hbr hbq
        go_wp2
        go_roundw
        case rel => exact ⟨k + 1, by omega, by go_num, by rw [HK1.out]; go_num, hb2⟩
        case measure => simp [intOf]; omega
      · obtain rfl : k = ms.length := by omega
        go_wp2
        go_ret
        exact ⟨ret_int (by rw [HE.out, HW.out]), below_trans hbw hbr⟩

theorem pc_all (n : Nat) (hn : n ≤ 8) : pc 8 (2 ^ n - 1) = n := by
  have h : n = 0 ∨ n = 1 ∨ n = 2 ∨ n = 3 ∨ n = 4 ∨ n = 5 ∨ n = 6 ∨ n = 7 ∨ n = 8 := by omega
  rcases h with rfl | rfl | rfl | rfl | rfl | rfl | rfl | rfl | rfl <;> decide
theorem all_bit (n a : Nat) (ha : a < n) : (2 ^ n - 1).testBit a = true := by rw [Nat.testBit_two_pow_sub_one]; simp [ha]
/-- All but a. -/
def others (n a : Nat) : Nat := 2 ^ n - 1 - 2 ^ a
theorem others_ok (n a : Nat) (hn : n ≤ 8) (ha : a < n) : others n a < 2 ^ n ∧ pc 8 (others n a) = n - 1 ∧ others n a + 2 ^ a = 2 ^ n - 1 ∧ 2 ^ n - 1 - others n a = 2 ^ a := by
  have h1 := all_bit n a ha
  have h2 : (2 : Nat) ^ n ≤ 256 := pow_le8 n hn
  have hp := Nat.two_pow_pos n
  have h3 := pc_sub (2 ^ n - 1) a (by omega) (by omega) h1
  have h4 := (sub_bit (2 ^ n - 1) a (by omega) (by omega) h1).2
  rw [pc_all n hn] at h3
  unfold others
  generalize hM : (2 : Nat) ^ a = M at *
  generalize hN : (2 : Nat) ^ n = N at *
  refine ⟨by omega, by omega, by omega, by omega⟩
/-- The number of ways that begin with one of the first k. -/
def waysTo (W : List Nat) (k : Nat) : Nat := sumK (fun a => wN lfOne W (W.length - 1) a (others W.length a)) (List.range W.length) k
theorem waysTo_succ (W : List Nat) (k : Nat) (h : k < W.length) : waysTo W (k + 1) = waysTo W k + wN lfOne W (W.length - 1) k (others W.length k) := by
  unfold waysTo
  rw [sumK_succ _ _ k (by rwa [List.length_range])]
  simp
theorem waysTo_le (W : List Nat) (h8 : W.length ≤ 8) (k : Nat) : waysTo W k ≤ 16777216 := by
  have := sumK_le (fun a => wN lfOne W (W.length - 1) a (others W.length a)) (8 ^ 7) (List.range W.length) (fun a _ => Nat.le_trans (wN_le lfOne W (fun _ => Nat.le_refl 1) _ a _) (Nat.pow_le_pow_right (by omega) (by omega))) (by rwa [List.length_range]) k
  unfold waysTo
  omega
def rCountFullWays (s : Int) (zs : List Int) : Int := if okB s zs then (waysTo (toW zs) (toW zs).length : Nat) else -1
def rCountFullCycles (s : Int) (zs : List Int) : Int := if okB s zs then (wN (lfBack (toW zs)) (toW zs) ((toW zs).length - 1) 0 (others (toW zs).length 0) : Nat) else -1
theorem cycles_small (W : List Nat) (hT : IsT W) (h : W.length < 3) : wN (lfBack W) W (W.length - 1) 0 (others W.length 0) = 0 := by
  have h1 := hT.h1
  have hs := hT.self 0
  rcases (by omega : W.length = 1 ∨ W.length = 2) with e | e
  · rw [e]
    show lfBack W 0 = 0
    unfold lfBack
    rw [hs]
    rfl
  · rw [e]
    show ((mem 8 (W.getD 0 0 &&& others 2 0)).map fun b => lfBack W b).sum = 0
    have ho : others 2 0 = 2 := rfl
    rw [ho]
    cases hb : bt W 0 1 with
    | false =>
      have : mem 8 (W.getD 0 0 &&& 2) = [] := by
        unfold mem
        rw [List.filter_eq_nil_iff]
        intro i _ hi
        rw [Nat.testBit_and, Bool.and_eq_true] at hi
        have h2 : i = 1 := by
          have := hi.2
          rw [show (2 : Nat) = 2 ^ 1 from rfl, Nat.testBit_two_pow] at this
          have := of_decide_eq_true this
          omega
        subst h2
        exact absurd hi.1 (by unfold bt at hb; rw [hb]; simp)
      rw [this]
      rfl
    | true =>
      have hp := hT.pair 1 0 (by omega) (by omega) (by omega)
      rw [hb] at hp
      have hz : ∀ b ∈ mem 8 (W.getD 0 0 &&& 2), lfBack W b = 0 := by
        intro b hm
        have := ((mem_mem 8 _ b).1 hm).2
        rw [Nat.testBit_and, Bool.and_eq_true] at this
        have h2 : b = 1 := by
          have := this.2
          rw [show (2 : Nat) = 2 ^ 1 from rfl, Nat.testBit_two_pow] at this
          have := of_decide_eq_true this
          omega
        subst h2
        unfold lfBack
        rw [hp]
        rfl
      rw [List.map_congr_left hz]
      generalize mem 8 (W.getD 0 0 &&& 2) = ms
      induction ms with
      | nil => rfl
      | cons x xs ih => simpa using ih
end Go.Proofs.Ytkdfjkocfejfjaa
