/- The library's functions on slices of int that the program calls, walked: IndexFunc, ContainsFunc, Index, Contains, IsSorted, Min, Equal; and allWithin. -/
import Derived.Test.YtaocjjocncoahaaSmall
import Derived.Deep.QuietTactic
import Derived.BigQuiet
import Derived.Shelf.Abstract
namespace Go.Proofs.Ytaocjjocncoahaa
open Go.RowKit

/-- The place of the first number of which p holds, or -1. -/
def idxOf (p : Int → Bool) (zs : List Int) : Int := if zs.findIdx p < zs.length then (zs.findIdx p : Int) else -1
theorem idxOf_hit (p : Int → Bool) (zs : List Int) (k : Nat) (hk : k < zs.length) (hp : p zs[k] = true) (hn : ∀ j (hj : j < k), p zs[j] = false) : idxOf p zs = (k : Int) := by
  have e : zs.findIdx p = k := by
    rw [List.findIdx_eq hk]
    exact ⟨hp, fun j hj => by simp [hn j hj]⟩
  unfold idxOf
  rw [e, if_pos hk]
theorem idxOf_miss (p : Int → Bool) (zs : List Int) (hn : ∀ j (hj : j < zs.length), p zs[j] = false) : idxOf p zs = -1 := by
  have e : zs.findIdx p = zs.length := by
    rw [List.findIdx_eq_length]
    intro x hx
    obtain ⟨i, hi, rfl⟩ := List.mem_iff_getElem.1 hx
    exact hn i hi
  unfold idxOf
  rw [e, if_neg (by omega)]
theorem idxOf_ge (p : Int → Bool) (zs : List Int) : decide (0 ≤ idxOf p zs) = zs.any p := by
  unfold idxOf
  by_cases h : zs.findIdx p < zs.length
  · rw [if_pos h]
    have := List.findIdx_lt_length.1 h
    simp only [Int.natCast_nonneg, decide_true]
    symm
    rw [List.any_eq_true]
    exact this
  · rw [if_neg h]
    symm
    simp only [Int.reduceNeg, Int.reduceLE, decide_false]
    rw [List.any_eq_false]
    intro x hx hp
    exact h (List.findIdx_lt_length.2 ⟨x, hx, hp⟩)

/-- At each of the numbers, in every world in which all that lay lies unturned, the function value says p. -/
def PredOn (g : Nat) (lb : Array Value) (p : Int → Bool) (zs : List Int) (w : World) : Prop :=
  ∀ (W : World) (z : Int), Below w.heap.size w W → z ∈ zs → Calls Try.prog g (#[.int .i64 z] ++ lb) W fun e w' => e = .returned (.bool (p z)) ∧ Below W.heap.size W w'

theorem indexFunc_any (g : Nat) (lb : Array Value) (eg : ∀ args w, (callFunc g args).run Try.prog w = .ok (.enter g args) w) (A : Option Addr) (c : Nat) (zs : List Int) (p : Int → Bool) (w : World)
    (hp : PredOn g lb p zs w) (h : Row w w.heap.size A (ints zs)) (hl : zs.length ≤ 1099511627776) :
    Calls Try.prog 108 #[.slice A zs.length c, .func (.func g) #[] lb] w fun e w' => e = .returned (.int .i64 (idxOf p zs)) ∧ Below w.heap.size w w' := by
  go_enter Try.func108, Try.ntmps108
  go_wp2
  go_loopw [8] (fun i wr => ∃ k : Nat, k ≤ zs.length ∧ i = .int .i64 k ∧ Below w.heap.size w wr ∧ Hid (∀ j (hj : j < zs.length), j < k → p zs[j] = false)) (fun i _ => zs.length - (intOf i).toNat)
  case atStart => exact ⟨0, Nat.zero_le _, rfl, Below.refl _ _, Lib.hid (fun j hj h => by omega)⟩
  case round =>
    obtain ⟨k, hk, rfl, hb, HN⟩ := hrel
    by_cases hlt : k < zs.length
    · obtain ⟨b, off, rfl, hbB, hc⟩ := (h.below hb (Nat.le_refl _)).int hlt
      have hcall := hp wr zs[k] hb (List.getElem_mem hlt)
      clear hp h
      generalize hy : zs[k] = y at hc hcall
      have B := Lib.hid hy
      clear hy
      cases hq : p y with
      | true =>
        rw [hq] at hcall
        have Q := Lib.hid hq
        clear hq
        go_wp2_with (go_at_fn g; refine hcall.mono ?_; rintro e w1 ⟨rfl, hb1⟩)
        go_ret
        exact ⟨ret_int (idxOf_hit p zs k hlt (by rw [B.out]; exact Q.out) (fun j hj => HN.out j (by omega) hj)).symm, hb.trans (hb1.mono hb.size)⟩
      | false =>
        rw [hq] at hcall
        have Q := Lib.hid hq
        clear hq
        go_wp2_with (go_at_fn g; refine hcall.mono ?_; rintro e w1 ⟨rfl, hb1⟩)
        go_roundw
        case rel =>
          refine ⟨k + 1, by omega, by go_num, hb.trans (hb1.mono hb.size), Lib.hid (fun j hj hjk => ?_)⟩
          by_cases e : j = k
          · subst e; rw [B.out]; exact Q.out
          · exact HN.out j hj (by omega)
        case measure => simp [intOf]; omega
    · obtain rfl : k = zs.length := by omega
      go_wp2
      go_ret
      exact ⟨ret_int (idxOf_miss p zs (fun j hj => HN.out j hj hj)).symm, hb⟩

theorem containsFunc_any (g : Nat) (lb : Array Value) (eg : ∀ args w, (callFunc g args).run Try.prog w = .ok (.enter g args) w) (A : Option Addr) (c : Nat) (zs : List Int) (p : Int → Bool) (w : World)
    (hp : PredOn g lb p zs w) (h : Row w w.heap.size A (ints zs)) (hl : zs.length ≤ 1099511627776) :
    Calls Try.prog 81 #[.slice A zs.length c, .func (.func g) #[] lb] w fun e w' => e = .returned (.bool (zs.any p)) ∧ Below w.heap.size w w' := by
  go_enter Try.func81, Try.ntmps81
  go_wp2_with fail
  refine (indexFunc_any g lb eg A c zs p _ hp h hl).mono ?_
  rintro e w1 ⟨rfl, hb⟩
  go_wp2
  go_ret
  exact ⟨ret_bool (idxOf_ge p zs), hb⟩

theorem less_any (a b : Int) (w : World) : Calls Try.prog 83 #[.int .i64 a, .int .i64 b] w fun e w' => e = .returned (.bool (decide (a < b))) ∧ w = w' := by
  have e1 : (a != a) = false := by simp
  go_enter Try.func83, Try.ntmps83
  go_wp2
  go_ret
  exact ⟨rfl, rfl⟩

/-- No number is below the one ahead of it. -/
def sortedB (zs : List Int) : Bool := (List.range (zs.length - 1)).all fun i => decide (zs.getD i 0 ≤ zs.getD (i + 1) 0)
theorem isSorted_any (A : Option Addr) (c : Nat) (zs : List Int) (w : World) (h : Row w w.heap.size A (ints zs)) (hl : zs.length ≤ 1099511627776) :
    Calls Try.prog 54 #[.slice A zs.length c] w fun e w' => e = .returned (.bool (sortedB zs)) ∧ Below w.heap.size w w' := by
  go_enter Try.func54, Try.ntmps54
  go_wp2
  go_loopw [3] (fun i wr => ∃ k : Int, -1 ≤ k ∧ k ≤ (zs.length : Int) - 1 ∧ i = .int .i64 k ∧ Below w.heap.size w wr ∧ Hid (∀ j : Nat, k ≤ (j : Int) → j + 1 < zs.length → zs.getD j 0 ≤ zs.getD (j + 1) 0)) (fun i _ => (intOf i).toNat)
  case atStart => exact ⟨(zs.length : Int) - 1, by omega, by omega, rfl, Below.refl _ _, Lib.hid (fun j h1 h2 => by omega)⟩
  case round =>
    obtain ⟨k, hk0, hk, rfl, hb, HN⟩ := hrel
    by_cases hlt : 0 < k
    · obtain ⟨m, rfl⟩ : ∃ m : Nat, k = (m : Int) + 1 := ⟨(k - 1).toNat, by omega⟩
      obtain ⟨b, off, rfl, hbB, hc⟩ := (h.below hb (Nat.le_refl _)).int (k := m + 1) (by omega)
      obtain ⟨b', off', e, _, hc'⟩ := (h.below hb (Nat.le_refl _)).int (k := m) (by omega)
      simp only [Option.some.injEq, Addr.mk.injEq, and_true] at e
      obtain ⟨rfl, rfl⟩ := e
      have g1 : zs.getD m 0 = zs[m] := getD_lt _ _ _ (by omega)
      have g2 : zs.getD (m + 1) 0 = zs[m + 1] := getD_lt _ _ _ (by omega)
      have G1 := Lib.hid g1
      have G2 := Lib.hid g2
      clear g1 g2 h
      generalize hy : zs[m] = y at hc' G1
      generalize hx : zs[m + 1] = x at hc G2
      clear hx hy
      have t1 : ((m : Int) + 1).toNat = m + 1 := by omega
      have t2 : ((m : Int) + 1 - 1).toNat = m := by omega
      by_cases hxy : x < y
      · go_wp2
        go_quiet ((go_at_call 83; exact Calls.quiet_of_same ((less_any _ _ _).mono fun _ _ ⟨p, q⟩ => ⟨p, q.symm⟩)))
        go_wp2
        go_ret
        refine ⟨ret_bool ?_, below_drewN hb _⟩
        symm
        unfold sortedB
        rw [List.all_eq_false]
        refine ⟨m, by rw [List.mem_range]; omega, ?_⟩
        rw [G1.out, G2.out]
        simp
        omega
      · go_wp2
        go_quiet ((go_at_call 83; exact Calls.quiet_of_same ((less_any _ _ _).mono fun _ _ ⟨p, q⟩ => ⟨p, q.symm⟩)))
        go_wp2
        go_roundw
        case rel =>
          refine ⟨m, by omega, by omega, by go_num, below_drewN hb _, Lib.hid (fun j h1 h2 => ?_)⟩
          by_cases e : j = m
          · subst e; rw [G1.out, G2.out]; omega
          · exact HN.out j (by omega) h2
        case measure => simp [intOf]
    · go_wp2
      go_ret
      refine ⟨ret_bool ?_, hb⟩
      symm
      unfold sortedB
      rw [List.all_eq_true]
      intro j hj
      have := HN.out j (by omega) (by simp at hj; omega)
      simpa using this

/-- The least of the first k + 1 numbers. -/
def minL (zs : List Int) : Nat → Int
  | 0 => zs.getD 0 0
  | k + 1 => min (minL zs k) (zs.getD (k + 1) 0)
theorem min_any (A : Option Addr) (c : Nat) (zs : List Int) (w : World) (h : Row w w.heap.size A (ints zs)) (h0 : 0 < zs.length) (hl : zs.length ≤ 1099511627776) :
    Calls Try.prog 55 #[.slice A zs.length c] w fun e w' => e = .returned (.int .i64 (minL zs (zs.length - 1))) ∧ w = w' := by
  obtain ⟨b, off, rfl, hbB, hc⟩ := h.int h0
  have E0 : Hid (zs.getD 0 0 = zs[0]) := Lib.hid (getD_lt _ _ _ (by omega))
  generalize hx : zs[0] = x at hc E0
  clear hx
  have hc1 : w.cell? ⟨b, off, none⟩ = some (.int .i64 x) := hc
  clear hc
  go_enter Try.func55, Try.ntmps55
  go_wp2
  go_loop [3, 4] (fun m i => ∃ k : Nat, k + 1 ≤ zs.length ∧ i = .int .i64 ((k : Int) + 1) ∧ m = .int .i64 (minL zs k)) (fun _ i => zs.length - (intOf i).toNat)
  case atStart => exact ⟨0, by omega, rfl, by unfold minL; rw [E0.out]⟩
  case round =>
    obtain ⟨k, hk, rfl, rfl⟩ := hrel
    by_cases hlt : k + 1 < zs.length
    · obtain ⟨b', off', e, _, hc'⟩ := h.int (k := k + 1) hlt
      simp only [Option.some.injEq, Addr.mk.injEq, and_true] at e
      obtain ⟨rfl, rfl⟩ := e
      have E1 : Hid ((if zs[k + 1] < minL zs k then zs[k + 1] else minL zs k) = minL zs (k + 1)) := Lib.hid (by rw [minL, getD_lt _ _ _ hlt, Int.min_def]; split <;> split <;> omega)
      clear h
      generalize hy : zs[k + 1] = y at hc' E1
      clear hy
      go_wp2
      go_round
      case rel => exact ⟨k + 1, by omega, by go_num, by rw [E1.out]⟩
      case measure => simp [intOf]; omega
    · have e : k = zs.length - 1 := by omega
      subst e
      go_wp2
      go_ret
      exact ⟨rfl, rfl⟩

/-- All numbers of a list lie in a range. -/
def allIn (lo hi : Int) (zs : List Int) : Bool := zs.all fun z => decide (lo ≤ z) && decide (z ≤ hi)
theorem allIn_no (zs : List Int) (lo hi : Int) (k : Nat) (hk : k < zs.length) (h : zs[k] < lo ∨ hi < zs[k]) : allIn lo hi zs = false := by
  unfold allIn
  rw [List.all_eq_false]
  exact ⟨zs[k], List.getElem_mem hk, by simp; omega⟩
theorem allIn_all (lo hi : Int) (zs : List Int) : allIn lo hi zs = true ↔ ∀ i, i < zs.length → lo ≤ zs.getD i 0 ∧ zs.getD i 0 ≤ hi := by
  unfold allIn
  rw [List.all_eq_true]
  constructor
  · intro h i hi'
    have := h _ (List.getElem_mem hi')
    rw [getD_lt _ _ _ hi']
    simpa using this
  · intro h z hz
    obtain ⟨i, hi', rfl⟩ := List.mem_iff_getElem.1 hz
    have := h i hi'
    rw [getD_lt _ _ _ hi'] at this
    simpa using this
theorem allWithin_pred (lo hi : Int) (w : World) (b1 b2 : Nat) (h1 : b1 < w.heap.size) (h2 : b2 < w.heap.size) (c1 : w.cell? ⟨b1, 0, none⟩ = some (.int .i64 lo)) (c2 : w.cell? ⟨b2, 0, none⟩ = some (.int .i64 hi)) (zs : List Int) :
    PredOn 82 #[.pointer (some ⟨b1, 0, none⟩), .pointer (some ⟨b2, 0, none⟩)] (fun z => !(decide (lo ≤ z) && decide (z ≤ hi))) zs w := by
  intro W z hb _
  have d1 : W.cell? ⟨b1, 0, none⟩ = some (.int .i64 lo) := (hb.cell (p := ⟨b1, 0, none⟩) h1).trans c1
  have d2 : W.cell? ⟨b2, 0, none⟩ = some (.int .i64 hi) := (hb.cell (p := ⟨b2, 0, none⟩) h2).trans c2
  clear c1 c2 hb
  by_cases h : lo ≤ z ∧ z ≤ hi
  · obtain ⟨g1, g2⟩ := h
    have E : Hid ((!(decide (lo ≤ z) && decide (z ≤ hi))) = false) := Lib.hid (by simp [g1, g2])
    go_enter Try.func82, Try.ntmps82
    go_wp2_with (go_at_call 33; refine (within_yes _ _ _ _ g1 g2).mono ?_; rintro e w' ⟨rfl, rfl⟩)
    go_ret
    exact ⟨ret_bool E.out.symm, Below.refl _ _⟩
  · have g : z < lo ∨ hi < z := by omega
    have E : Hid ((!(decide (lo ≤ z) && decide (z ≤ hi))) = true) := Lib.hid (by simp; omega)
    clear h
    go_enter Try.func82, Try.ntmps82
    go_wp2_with (go_at_call 33; refine (within_no _ _ _ _ g).mono ?_; rintro e w' ⟨rfl, rfl⟩)
    go_ret
    exact ⟨ret_bool E.out.symm, Below.refl _ _⟩
theorem allWithin_any (A : Option Addr) (c : Nat) (zs : List Int) (lo hi : Int) (w : World) (h : Row w w.heap.size A (ints zs)) (hl : zs.length ≤ 1099511627776) :
    Calls Try.prog 52 #[.slice A zs.length c, .int .i64 lo, .int .i64 hi] w fun e w' => e = .returned (.bool (allIn lo hi zs)) ∧ Below w.heap.size w w' := by
  have hrow : ∀ W : World, Below w.heap.size w W → Row W W.heap.size A (ints zs) := fun W hb => (h.below hb (Nat.le_refl _)).mono hb.size
  have E : Hid ((!(zs.any fun z => !decide (lo ≤ z) || !decide (z ≤ hi))) = allIn lo hi zs) := Lib.hid (by unfold allIn; rw [List.all_eq_not_any_not]; simp)
  go_enter Try.func52, Try.ntmps52
  go_wp2_with fail
  refine (containsFunc_any 82 _ (enters_of Try.func82 (by kernel_rfl) rfl) A c zs _ _ (allWithin_pred lo hi _ _ _ ?_ ?_ ?_ ?_ zs) (hrow _ ?_) hl).mono ?_
  · simp; omega
  · simp
  · go_simp
  · go_simp
  · go_grown
  rintro e w1 ⟨rfl, hb⟩
  go_wp2
  go_ret
  exact ⟨ret_bool E.out, Below.trans (by go_grown) (hb.mono (by simp; omega))⟩
end Go.Proofs.Ytaocjjocncoahaa
