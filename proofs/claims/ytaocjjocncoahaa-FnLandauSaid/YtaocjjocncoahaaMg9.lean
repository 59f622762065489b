/- slices.Clone, slices.Sort: lists of any length, with the library's own contract. slices.SortFunc at no more than 12, of a slice that has been cut off in front. RealizeScores' comparison of two players: by the number, then by the name. -/
import Derived.Test.YtaocjjocncoahaaSortO
import Derived.Test.YtaocjjocncoahaaShelfR
import Derived.Sort.OwnSortedInts
import Derived.Test.YtaocjjocncoahaaSortFO
import Derived.Test.YtaocjjocncoahaaMg2
namespace Go.Proofs.Ytaocjjocncoahaa
open Go.RowKit Go.Sort

theorem merge_is (zs : List Int) : zs.mergeSort (fun x y => decide (x ≤ y)) = sortL zs := by
  refine sorted_is ?_ (List.mergeSort_perm _ _)
  have h := List.pairwise_mergeSort (le := fun x y : Int => decide (x ≤ y)) (fun a b c h1 h2 => by simp only [decide_eq_true_eq] at *; omega) (fun a b => by simp only [Bool.or_eq_true, decide_eq_true_eq]; omega) zs
  exact h.imp fun h => by simpa using h
theorem sortAll_any (lo hi : Nat) (G : Option Addr) (d : Nat) (zs : List Int) (w : World) (h : Own w lo hi 3 G d (ints zs)) (hhi : hi ≤ w.heap.size) (hl : zs.length ≤ 1099511627776) :
    Calls Try.prog 41 #[.slice G zs.length d] w fun e w' => e = .returned (.tuple #[]) ∧ Own w' lo hi 3 G d (ints (sortL zs)) ∧ Only lo hi w w' := by
  rcases h with ⟨rfl, h2, rfl⟩ | ⟨g, cur, rfl, ha, hb, hh, h1, h2, h3, h4⟩
  · obtain rfl : zs = [] := by cases zs <;> simp_all [ints]
    exact (sort_nil w).mono fun e w' ⟨he, hbl⟩ => ⟨he, .inl ⟨rfl, rfl, rfl⟩, Only.of_below hbl⟩
  · rw [ints_length] at h1 h4
    refine (Try.slices_Sort_int g 0 d zs w (holds_of_blockI hh h4) (by omega) (by omega)).mono fun e w' ⟨he, n, os, hw⟩ => ?_
    rw [merge_is] at hw
    refine ⟨he, .inr ⟨g, putCells (Value.int .i64) 0 (sortL zs).toArray cur, rfl, ha, hb, by rw [hw]; exact heap_sortedI _ hh, by rw [ints_length, sortL_length]; exact h1, h2, by simp [putCells, h3], ?_⟩, ?_⟩
    · rw [ints_length]
      exact take_putCellsI cur (sortL zs) (by rw [sortL_length]; omega)
    · rw [hw]
      have hg := grownBy_sortedI (w := w) (g := g) (n := n) (os := os) (sortL zs).toArray
      exact ⟨hg.os, hg.tape, hg.output, hg.size, fun k hk hr => hg.block k hk (fun e => by have := Option.some.inj e; omega)⟩
theorem cloneAll_any (A : Option Addr) (c : Nat) (zs : List Int) (w : World) (h : Row w w.heap.size A (ints zs)) (hl : zs.length ≤ 549755813888) :
    Calls Try.prog 40 #[.slice A zs.length c] w (NewInts w 3 zs) := by
  by_cases h0 : 0 < zs.length
  · exact clone_any A c zs w h h0 hl
  · obtain rfl : zs = [] := List.eq_nil_of_length_eq_zero (by omega)
    cases A with
    | none => exact (Try.slices_Clone_int_nil 0 c w).mono fun e w' ⟨he, hw⟩ => ⟨none, 0, he, .inl ⟨rfl, rfl, rfl⟩, by rw [hw]; exact Below.refl _ _⟩
    | some a =>
      exact (Try.slices_Clone_int_zero a c w).mono fun e w' ⟨v, he, ho, _, hb⟩ => by
        obtain ⟨A', c', rfl, _, ho'⟩ := own_of_ownsRow ho
        exact ⟨A', c', he, ho', hb⟩
end Go.Proofs.Ytaocjjocncoahaa

namespace Go.Proofs.Ytaocjjocncoahaa
open Go.RowKit

def SortedO (w : World) (lo hi ga off : Nat) (κ : Nat → Int) (os : List Nat) (e : Ending) (w' : World) : Prop :=
  e = .returned (.tuple #[]) ∧ ∃ L : List Nat, L.Perm os ∧ AscTo κ L os.length ∧ OwnO w' lo hi ga off L ∧ Only lo hi w w'
theorem pdqCmpO_any (g : Nat) (lb : Array Value) (eg : ∀ args w, (callFunc g args).run Try.prog w = .ok (.enter g args) w) (f : Nat → Nat → Int) (κ : Nat → Int) (n ga off c lo hi : Nat) (lim : Int) (os : List Nat) (w : World)
    (hp : PredCmpO g lb f lo hi n w) (hk : ∀ x y, x < n → y < n → (f x y < 0 ↔ κ x < κ y)) (hos : ∀ x ∈ os, x < n) (h : OwnO w lo hi ga off os) (hhi : hi ≤ w.heap.size) (h1 : 1 ≤ os.length) (h8 : os.length ≤ 12) :
    Calls Try.prog 72 #[.slice (some ⟨ga, off, none⟩) os.length c, .int .i64 0, .int .i64 (os.length : Int), .int .i64 lim, .func (.func g) #[] lb] w (SortedO w lo hi ga off κ os) := by
  have HX := Lib.hid (insSortO_any g lb eg f κ n ga off c lo hi os w hp hk hos h hhi h1 h8)
  clear h hp hk hos
  have hle : (os.length : Int) ≤ 12 := by omega
  go_enter Try.func72, Try.ntmps72
  go_wp2
  go_loop [1, 2, 3, 10, 11] (fun a b l p q => a = .int .i64 0 ∧ b = .int .i64 (os.length : Int) ∧ l = .int .i64 lim ∧ p = .bool true ∧ q = .bool true) (fun _ _ _ _ _ => 0)
  case atStart => exact ⟨rfl, rfl, rfl, rfl, rfl⟩
  case round =>
    obtain ⟨rfl, rfl, rfl, rfl, rfl⟩ := hrel
    go_wp2_with fail
    refine HX.out.mono ?_
    rintro e w1 ⟨rfl, L, h1, h2, h3, h4⟩
    have HR := Lib.hid (And.intro h1 (And.intro h2 (And.intro h3 h4)))
    clear h1 h2 h3 h4
    go_wp2
    go_end0
    exact ⟨rfl, L, HR.out⟩
theorem sortFuncO_any (g : Nat) (lb : Array Value) (eg : ∀ args w, (callFunc g args).run Try.prog w = .ok (.enter g args) w) (f : Nat → Nat → Int) (κ : Nat → Int) (n ga off c lo hi : Nat) (os : List Nat) (w : World)
    (hp : PredCmpO g lb f lo hi n w) (hk : ∀ x y, x < n → y < n → (f x y < 0 ↔ κ x < κ y)) (hos : ∀ x ∈ os, x < n) (h : OwnO w lo hi ga off os) (hhi : hi ≤ w.heap.size) (h1 : 1 ≤ os.length) (h8 : os.length ≤ 12) :
    Calls Try.prog 46 #[.slice (some ⟨ga, off, none⟩) os.length c, .func (.func g) #[] lb] w (SortedO w lo hi ga off κ os) := by
  have HX := Lib.hid (fun lim => pdqCmpO_any g lb eg f κ n ga off c lo hi lim os w hp hk hos h hhi h1 h8)
  clear h hp hk hos
  go_enter Try.func46, Try.ntmps46
  go_wp2_with fail
  refine (len_any (os.length : Int) _ (by omega) (by omega)).mono ?_
  rintro e w1 ⟨rfl, rfl⟩
  go_wp2_with fail
  refine (HX.out _).mono ?_
  rintro e w1 ⟨rfl, L, h1, h2, h3, h4⟩
  have HR := Lib.hid (And.intro h1 (And.intro h2 (And.intro h3 h4)))
  clear h1 h2 h3 h4
  go_wp2
  go_end0
  exact ⟨rfl, L, HR.out⟩
end Go.Proofs.Ytaocjjocncoahaa

namespace Go.Proofs.Ytaocjjocncoahaa
open Go.RowKit

def cmpI (x y : Int) : Int := if x < y then -1 else if y < x then 1 else 0
def or2 (a b : Int) : Int := if a = 0 then b else a
theorem compare_any (x y : Int) (w : World) : Calls Try.prog 45 #[.int .i64 x, .int .i64 y] w fun e w' => e = .returned (.int .i64 (cmpI x y)) ∧ w = w' := by
  have HN := Lib.hid (fun z W' => Try.cmp_isNaN_int2 z W')
  have HR : Hid (cmpI x y = if x < y then -1 else if y < x then 1 else 0) := Lib.hid rfl
  go_enter Try.func45, Try.ntmps45
  go_wp2_with fail
  refine (HN.out x _).mono ?_
  rintro e w1 ⟨rfl, rfl⟩
  go_wp2_with fail
  refine (HN.out y _).mono ?_
  rintro e w1 ⟨rfl, rfl⟩
  by_cases h1 : x < y
  · have HR2 : Hid (cmpI x y = -1) := Lib.hid (by rw [HR.out, if_pos h1])
    go_wp2
    go_ret
    exact ⟨ret_int HR2.out.symm, rfl⟩
  · by_cases h2 : y < x
    · have HR2 : Hid (cmpI x y = 1) := Lib.hid (by rw [HR.out, if_neg h1, if_pos h2])
      go_wp2
      go_ret
      exact ⟨ret_int HR2.out.symm, rfl⟩
    · have HR2 : Hid (cmpI x y = 0) := Lib.hid (by rw [HR.out, if_neg h1, if_neg h2])
      go_wp2
      go_ret
      exact ⟨ret_int HR2.out.symm, rfl⟩
theorem or2_any (g c : Nat) (a b : Int) (w : World) (h0 : w.cell? ⟨g, 0, none⟩ = some (.int .i64 a)) (h1 : w.cell? ⟨g, 1, none⟩ = some (.int .i64 b)) :
    Calls Try.prog 44 #[.slice (some ⟨g, 0, none⟩) 2 c] w fun e w' => e = .returned (.int .i64 (or2 a b)) ∧ w = w' := by
  have HR : Hid (or2 a b = if a = 0 then b else a) := Lib.hid rfl
  go_enter Try.func44, Try.ntmps44
  go_wp2
  go_loop [8] (fun i => i = .int .i64 0 ∨ (i = .int .i64 1 ∧ a = 0) ∨ (i = .int .i64 2 ∧ a = 0 ∧ b = 0)) (fun i => 2 - (intOf i).toNat)
  case atStart => exact .inl rfl
  case round =>
    rcases hrel with rfl | ⟨rfl, ha⟩ | ⟨rfl, ha, hb⟩
    · by_cases ha : a = 0
      · subst ha
        go_wp2
        go_round
        case rel => exact .inr (.inl ⟨by go_num, trivial⟩)
        case measure => simp [intOf]
      · have HR2 : Hid (or2 a b = a) := Lib.hid (by rw [HR.out, if_neg ha])
        have e1 : (a != 0) = true := by simp [ha]
        go_wp2
        go_ret
        exact ⟨ret_int HR2.out.symm, rfl⟩
    · subst ha
      by_cases hb : b = 0
      · subst hb
        go_wp2
        go_round
        case rel => exact .inr (.inr ⟨by go_num, trivial, trivial⟩)
        case measure => simp [intOf]
      · have HR2 : Hid (or2 0 b = b) := Lib.hid (by rw [HR.out, if_pos rfl])
        have e1 : (b != 0) = true := by simp [hb]
        go_wp2
        go_ret
        exact ⟨ret_int HR2.out.symm, rfl⟩
    · subst ha hb
      have HR2 : Hid (or2 0 0 = 0) := Lib.hid (by rw [HR.out, if_pos rfl])
      go_wp2
      go_ret
      exact ⟨ret_int HR2.out.symm, rfl⟩
/-- The comparison of two players. -/
def cmpP (s : Nat → Int) (x y : Nat) : Int := or2 (cmpI (s x) (s y)) (cmpI (x : Int) (y : Int))
theorem cmpP_key (s : Nat → Int) (x y : Nat) (hx : x < 16) (hy : y < 16) : cmpP s x y < 0 ↔ ky s x < ky s y := by
  unfold cmpP or2 cmpI ky
  by_cases h1 : s x < s y
  · rw [if_pos h1]; simp; omega
  · rw [if_neg h1]
    by_cases h2 : s y < s x
    · rw [if_pos h2]; simp; omega
    · rw [if_neg h2, if_pos rfl]
      by_cases h3 : (x : Int) < (y : Int)
      · rw [if_pos h3]; constructor <;> intro _ <;> omega
      · rw [if_neg h3]
        by_cases h4 : (y : Int) < (x : Int)
        · rw [if_pos h4]; constructor <;> intro _ <;> omega
        · rw [if_neg h4]; constructor <;> intro _ <;> omega
set_option maxRecDepth 20000 in
set_option maxHeartbeats 1000000 in
theorem realCmp_any (bx : Nat) (G : Option Addr) (d n : Nat) (s : Nat → Int) (x y : Nat) (w : World) (hb : w.cell? ⟨bx, 0, none⟩ = some (.slice G n d)) (h : Row w w.heap.size G (ints (fz n s))) (hx : x < n) (hy : y < n) (hn : n ≤ 8) :
    Calls Try.prog 43 #[.int .i64 (x : Int), .int .i64 (y : Int), .pointer (some ⟨bx, 0, none⟩)] w fun e w' => e = .returned (.int .i64 (cmpP s x y)) ∧ Below w.heap.size w w' := by
  obtain ⟨g, off, rfl, hg, cx⟩ := h.int (k := x) (by rw [fz_length]; exact hx)
  obtain ⟨g', off', e, _, cy⟩ := h.int (k := y) (by rw [fz_length]; exact hy)
  simp only [Option.some.injEq, Addr.mk.injEq, and_true] at e
  obtain ⟨rfl, rfl⟩ := e
  rw [fz_get] at cx cy
  have HR : Hid (cmpP s x y = or2 (cmpI (s x) (s y)) (cmpI (x : Int) (y : Int))) := Lib.hid rfl
  have HC1 := Lib.hid (fun W' => compare_any (s x) (s y) W')
  have HC2 := Lib.hid (fun W' => compare_any (x : Int) (y : Int) W')
  have HO := Lib.hid (fun g c a b W' h0 h1 => or2_any g c a b W' h0 h1)
  generalize s x = u at *
  generalize s y = v at *
  generalize cmpI u v = k1 at *
  generalize cmpI (x : Int) (y : Int) = k2 at *
  go_enter Try.func43, Try.ntmps43
  go_wp2_with fail
  have hlb := World.block_lt_of_cell? w _ hb
  have HK := Lib.hid (fun W' (hW : Below w.heap.size w W') => (⟨hW, (hW.cell hlb).trans hb, (hW.cell (p := ⟨g, off + x, none⟩) hg).trans cx, (hW.cell (p := ⟨g, off + y, none⟩) hg).trans cy⟩ :
    Below w.heap.size w W' ∧ W'.cell? ⟨bx, 0, none⟩ = some (.slice (some ⟨g, off, none⟩) n d) ∧ W'.cell? ⟨g, off + x, none⟩ = some (.int .i64 u) ∧ W'.cell? ⟨g, off + y, none⟩ = some (.int .i64 v)))
  clear h hlb
  go_region_held3 (fun w' => Below w.heap.size w w' ∧ w'.cell? ⟨bx, 0, none⟩ = some (.slice (some ⟨g, off, none⟩) n d) ∧ w'.cell? ⟨g, off + x, none⟩ = some (.int .i64 u) ∧ w'.cell? ⟨g, off + y, none⟩ = some (.int .i64 v))
    ((refine HK.out _ ?_; go_grown))
    (first
      | (go_at_call 45; (with_reducible refine (HC1.out _).mono ?_); rintro e wq ⟨rfl, rfl⟩)
      | (go_at_call 45; (with_reducible refine (HC2.out _).mono ?_); rintro e wq ⟨rfl, rfl⟩)
      | (go_at_call 44; refine (HO.out _ _ k1 k2 _ (by go_simp) (by go_simp)).mono ?_; rintro e wq ⟨rfl, rfl⟩))
  all_goals
    go_wp2
    go_ret
    exact ⟨ret_int HR.out.symm, by go_grown⟩
end Go.Proofs.Ytaocjjocncoahaa
