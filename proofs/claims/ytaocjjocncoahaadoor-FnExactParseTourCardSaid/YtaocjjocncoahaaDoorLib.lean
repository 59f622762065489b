/- The library's functions on slices of int that the program calls, walked: IndexFunc, ContainsFunc, Index, Contains, IsSorted, Min, Equal; and allWithin. -/
import Derived.Test.YtaocjjocncoahaaDoorSmall
import Derived.Deep.QuietTactic
import Derived.BigQuiet
import Derived.Shelf.Abstract
namespace Go.Proofs.YtaocjjocncoahaaDoor
open Go.RowKit

/-- The place of the first number of which p holds, or -1. -/
def idxOf (p : Int → Bool) (zs : List Int) : Int := if zs.findIdx p < zs.length then (zs.findIdx p : Int) else -1
theorem idxOf_hit (p : Int → Bool) (zs : List Int) (k : Nat) (hk : k < zs.length) (hp : p zs[k] = true) (hn : ∀ j (hj : j < k), p zs[j] = false) : idxOf p zs = (k : Int) := by
  have e : zs.findIdx p = k := by
    rw [List.findIdx_eq hk]
    exact ⟨hp, fun j hj => by simp [hn j hj]⟩
  unfold idxOf
  rw [e, if_pos hk]
theorem idxOf_miss (p : Int → Bool) (zs : List Int) (hn : ∀ j (hj : j < zs.length), p zs[j] = false) : idxOf p zs = -1 := by
  have e : zs.findIdx p = zs.length := by
    rw [List.findIdx_eq_length]
    intro x hx
    obtain ⟨i, hi, rfl⟩ := List.mem_iff_getElem.1 hx
    exact hn i hi
  unfold idxOf
  rw [e, if_neg (by omega)]
theorem idxOf_ge (p : Int → Bool) (zs : List Int) : decide (0 ≤ idxOf p zs) = zs.any p := by
  unfold idxOf
  by_cases h : zs.findIdx p < zs.length
  · rw [if_pos h]
    have := List.findIdx_lt_length.1 h
    simp only [Int.natCast_nonneg, decide_true]
    symm
    rw [List.any_eq_true]
    exact this
  · rw [if_neg h]
    symm
    simp only [Int.reduceNeg, Int.reduceLE, decide_false]
    rw [List.any_eq_false]
    intro x hx hp
    exact h (List.findIdx_lt_length.2 ⟨x, hx, hp⟩)

/-- At each of the numbers, in every world in which all that lay lies unturned, the function value says p. -/
def PredOn (g : Nat) (lb : Array Value) (p : Int → Bool) (zs : List Int) (w : World) : Prop :=
  ∀ (W : World) (z : Int), Below w.heap.size w W → z ∈ zs → Calls Tryd.prog g (#[.int .i64 z] ++ lb) W fun e w' => e = .returned (.bool (p z)) ∧ Below W.heap.size W w'

theorem indexFunc_any (g : Nat) (lb : Array Value) (eg : ∀ args w, (callFunc g args).run Tryd.prog w = .ok (.enter g args) w) (A : Option Addr) (c : Nat) (zs : List Int) (p : Int → Bool) (w : World)
    (hp : PredOn g lb p zs w) (h : Row w w.heap.size A (ints zs)) (hl : zs.length ≤ 1099511627776) :
    Calls Tryd.prog 82 #[.slice A zs.length c, .func (.func g) #[] lb] w fun e w' => e = .returned (.int .i64 (idxOf p zs)) ∧ Below w.heap.size w w' := by
  go_enter Tryd.func82, Tryd.ntmps82
  go_wp2
  go_loopw [8] (fun i wr => ∃ k : Nat, k ≤ zs.length ∧ i = .int .i64 k ∧ Below w.heap.size w wr ∧ Hid (∀ j (hj : j < zs.length), j < k → p zs[j] = false)) (fun i _ => zs.length - (intOf i).toNat)
  case atStart => exact ⟨0, Nat.zero_le _, rfl, Below.refl _ _, Lib.hid (fun j hj h => by omega)⟩
  case round =>
    obtain ⟨k, hk, rfl, hb, HN⟩ := hrel
    by_cases hlt : k < zs.length
    · obtain ⟨b, off, rfl, hbB, hc⟩ := (h.below hb (Nat.le_refl _)).int hlt
      have hcall := hp wr zs[k] hb (List.getElem_mem hlt)
      clear hp h
      generalize hy : zs[k] = y at hc hcall
      have B := Lib.hid hy
      clear hy
      cases hq : p y with
      | true =>
        rw [hq] at hcall
        have Q := Lib.hid hq
        clear hq
        go_wp2_with (go_at_fn g; refine hcall.mono ?_; rintro e w1 ⟨rfl, hb1⟩)
        go_ret
        exact ⟨ret_int (idxOf_hit p zs k hlt (by rw [B.out]; exact Q.out) (fun j hj => HN.out j (by omega) hj)).symm, hb.trans (hb1.mono hb.size)⟩
      | false =>
        rw [hq] at hcall
        have Q := Lib.hid hq
        clear hq
        go_wp2_with (go_at_fn g; refine hcall.mono ?_; rintro e w1 ⟨rfl, hb1⟩)
        go_roundw
        case rel =>
          refine ⟨k + 1, by omega, by go_num, hb.trans (hb1.mono hb.size), Lib.hid (fun j hj hjk => ?_)⟩
          by_cases e : j = k
          · subst e; rw [B.out]; exact Q.out
          · exact HN.out j hj (by omega)
        case measure => simp [intOf]; omega
    · obtain rfl : k = zs.length := by omega
      go_wp2
      go_ret
      exact ⟨ret_int (idxOf_miss p zs (fun j hj => HN.out j hj hj)).symm, hb⟩

theorem containsFunc_any (g : Nat) (lb : Array Value) (eg : ∀ args w, (callFunc g args).run Tryd.prog w = .ok (.enter g args) w) (A : Option Addr) (c : Nat) (zs : List Int) (p : Int → Bool) (w : World)
    (hp : PredOn g lb p zs w) (h : Row w w.heap.size A (ints zs)) (hl : zs.length ≤ 1099511627776) :
    Calls Tryd.prog 73 #[.slice A zs.length c, .func (.func g) #[] lb] w fun e w' => e = .returned (.bool (zs.any p)) ∧ Below w.heap.size w w' := by
  go_enter Tryd.func73, Tryd.ntmps73
  go_wp2_with fail
  refine (indexFunc_any g lb eg A c zs p _ hp h hl).mono ?_
  rintro e w1 ⟨rfl, hb⟩
  go_wp2
  go_ret
  exact ⟨ret_bool (idxOf_ge p zs), hb⟩

theorem equal_any (A B : Option Addr) (c d : Nat) (xs ys : List Int) (w : World) (h : Row w w.heap.size A (ints xs)) (h' : Row w w.heap.size B (ints ys)) (hl : xs.length ≤ 1099511627776) (hl' : ys.length ≤ 1099511627776) :
    Calls Tryd.prog 50 #[.slice A xs.length c, .slice B ys.length d] w fun e w' => e = .returned (.bool (xs == ys)) ∧ Below w.heap.size w w' := by
  by_cases hlen : xs.length = ys.length
  · have e0 : ((xs.length : Int) != (ys.length : Int)) = false := by simp [hlen]
    have HL := Lib.hid hlen
    have hle : ys.length ≤ xs.length := by omega
    have hge : xs.length ≤ ys.length := by omega
    clear hlen
    go_enter Tryd.func50, Tryd.ntmps50
    go_wp2
    go_loopw [13] (fun i wr => ∃ k : Nat, k ≤ xs.length ∧ i = .int .i64 k ∧ Below w.heap.size w wr ∧ Hid (∀ j (h1 : j < xs.length) (h2 : j < ys.length), j < k → xs[j] = ys[j])) (fun i _ => xs.length - (intOf i).toNat)
    case atStart => exact ⟨0, Nat.zero_le _, rfl, Below.refl _ _, Lib.hid (fun j _ _ h => by omega)⟩
    case round =>
      obtain ⟨k, hk, rfl, hb, HN⟩ := hrel
      by_cases hlt : k < xs.length
      · obtain ⟨b, off, rfl, hbB, hc⟩ := (h.below hb (Nat.le_refl _)).int hlt
        obtain ⟨b', off', rfl, hbB', hc'⟩ := (h'.below hb (Nat.le_refl _)).int (k := k) (by omega)
        have hlt' : k < ys.length := by omega
        generalize hx : xs[k] = x at hc
        generalize hy : ys[k] = y at hc'
        have X := Lib.hid hx
        have Y := Lib.hid hy
        clear hx hy h h'
        cases hq : x == y with
        | true =>
          have hne : (x != y) = false := by simpa [bne] using hq
          go_wp2
          go_quiet (fail)
          go_wp2
          go_roundw
          case rel =>
            refine ⟨k + 1, by omega, by go_num, below_drewN hb _, Lib.hid (fun j h1 h2 hj => ?_)⟩
            by_cases e : j = k
            · subst e; rw [X.out, Y.out]; simpa using hq
            · exact HN.out j h1 h2 (by omega)
          case measure => simp [intOf]; omega
        | false =>
          have hne : (x != y) = true := by simpa [bne] using hq
          go_wp2
          go_quiet (fail)
          go_wp2
          go_ret
          refine ⟨ret_bool ?_, below_drewN hb _⟩
          symm
          rw [beq_eq_false_iff_ne]
          intro e
          have hxy : x = y := by rw [← X.out, ← Y.out]; simp only [e]
          rw [hxy] at hq
          simp at hq
      · obtain rfl : k = xs.length := by omega
        go_wp2
        go_ret
        refine ⟨ret_bool ?_, hb⟩
        symm
        rw [beq_iff_eq]
        exact List.ext_getElem HL.out fun j h1 h2 => HN.out j h1 h2 h1
  · have e0 : ((xs.length : Int) != (ys.length : Int)) = true := by simp; omega
    have E : (xs == ys) = false := by rw [beq_eq_false_iff_ne]; rintro rfl; exact hlen rfl
    have HE := Lib.hid E
    clear hlen E
    go_enter Tryd.func50, Tryd.ntmps50
    go_wp2
    go_ret
    exact ⟨ret_bool HE.out.symm, Below.refl _ _⟩

/-- All numbers of a list lie in a range. -/
def allIn (lo hi : Int) (zs : List Int) : Bool := zs.all fun z => decide (lo ≤ z) && decide (z ≤ hi)
theorem allIn_no (zs : List Int) (lo hi : Int) (k : Nat) (hk : k < zs.length) (h : zs[k] < lo ∨ hi < zs[k]) : allIn lo hi zs = false := by
  unfold allIn
  rw [List.all_eq_false]
  exact ⟨zs[k], List.getElem_mem hk, by simp; omega⟩
theorem allIn_all (lo hi : Int) (zs : List Int) : allIn lo hi zs = true ↔ ∀ i, i < zs.length → lo ≤ zs.getD i 0 ∧ zs.getD i 0 ≤ hi := by
  unfold allIn
  rw [List.all_eq_true]
  constructor
  · intro h i hi'
    have := h _ (List.getElem_mem hi')
    rw [getD_lt _ _ _ hi']
    simpa using this
  · intro h z hz
    obtain ⟨i, hi', rfl⟩ := List.mem_iff_getElem.1 hz
    have := h i hi'
    rw [getD_lt _ _ _ hi'] at this
    simpa using this
theorem allWithin_pred (lo hi : Int) (w : World) (b1 b2 : Nat) (h1 : b1 < w.heap.size) (h2 : b2 < w.heap.size) (c1 : w.cell? ⟨b1, 0, none⟩ = some (.int .i64 lo)) (c2 : w.cell? ⟨b2, 0, none⟩ = some (.int .i64 hi)) (zs : List Int) :
    PredOn 74 #[.pointer (some ⟨b1, 0, none⟩), .pointer (some ⟨b2, 0, none⟩)] (fun z => !(decide (lo ≤ z) && decide (z ≤ hi))) zs w := by
  intro W z hb _
  have d1 : W.cell? ⟨b1, 0, none⟩ = some (.int .i64 lo) := (hb.cell (p := ⟨b1, 0, none⟩) h1).trans c1
  have d2 : W.cell? ⟨b2, 0, none⟩ = some (.int .i64 hi) := (hb.cell (p := ⟨b2, 0, none⟩) h2).trans c2
  clear c1 c2 hb
  by_cases h : lo ≤ z ∧ z ≤ hi
  · obtain ⟨g1, g2⟩ := h
    have E : Hid ((!(decide (lo ≤ z) && decide (z ≤ hi))) = false) := Lib.hid (by simp [g1, g2])
    go_enter Tryd.func74, Tryd.ntmps74
    go_wp2_with (go_at_call 25; refine (within_yes _ _ _ _ g1 g2).mono ?_; rintro e w' ⟨rfl, rfl⟩)
    go_ret
    exact ⟨ret_bool E.out.symm, Below.refl _ _⟩
  · have g : z < lo ∨ hi < z := by omega
    have E : Hid ((!(decide (lo ≤ z) && decide (z ≤ hi))) = true) := Lib.hid (by simp; omega)
    clear h
    go_enter Tryd.func74, Tryd.ntmps74
    go_wp2_with (go_at_call 25; refine (within_no _ _ _ _ g).mono ?_; rintro e w' ⟨rfl, rfl⟩)
    go_ret
    exact ⟨ret_bool E.out.symm, Below.refl _ _⟩
theorem allWithin_any (A : Option Addr) (c : Nat) (zs : List Int) (lo hi : Int) (w : World) (h : Row w w.heap.size A (ints zs)) (hl : zs.length ≤ 1099511627776) :
    Calls Tryd.prog 58 #[.slice A zs.length c, .int .i64 lo, .int .i64 hi] w fun e w' => e = .returned (.bool (allIn lo hi zs)) ∧ Below w.heap.size w w' := by
  have hrow : ∀ W : World, Below w.heap.size w W → Row W W.heap.size A (ints zs) := fun W hb => (h.below hb (Nat.le_refl _)).mono hb.size
  have E : Hid ((!(zs.any fun z => !decide (lo ≤ z) || !decide (z ≤ hi))) = allIn lo hi zs) := Lib.hid (by unfold allIn; rw [List.all_eq_not_any_not]; simp)
  go_enter Tryd.func58, Tryd.ntmps58
  go_wp2_with fail
  refine (containsFunc_any 74 _ (enters_of Tryd.func74 (by kernel_rfl) rfl) A c zs _ _ (allWithin_pred lo hi _ _ _ ?_ ?_ ?_ ?_ zs) (hrow _ ?_) hl).mono ?_
  · simp; omega
  · simp
  · go_simp
  · go_simp
  · go_grown
  rintro e w1 ⟨rfl, hb⟩
  go_wp2
  go_ret
  exact ⟨ret_bool E.out, Below.trans (by go_grown) (hb.mono (by simp; omega))⟩
end Go.Proofs.YtaocjjocncoahaaDoor
