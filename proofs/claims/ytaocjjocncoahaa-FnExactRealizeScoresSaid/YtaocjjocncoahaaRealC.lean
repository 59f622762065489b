/- RealizeScores' comparison of two players: by the number, then by the name. -/
import Derived.Test.YtaocjjocncoahaaSortFP
import Derived.Test.YtaocjjocncoahaaRealQ
import Derived.Test.YtaocjjocncoahaaShelfR
namespace Go.Proofs.Ytaocjjocncoahaa
open Go.RowKit

def cmpI (x y : Int) : Int := if x < y then -1 else if y < x then 1 else 0
def or2 (a b : Int) : Int := if a = 0 then b else a
theorem compare_any (x y : Int) (w : World) : Calls Try.prog 45 #[.int .i64 x, .int .i64 y] w fun e w' => e = .returned (.int .i64 (cmpI x y)) ∧ w = w' := by
  have HN := Lib.hid (fun z W' => Try.cmp_isNaN_int2 z W')
  have HR : Hid (cmpI x y = if x < y then -1 else if y < x then 1 else 0) := Lib.hid rfl
  go_enter Try.func45, Try.ntmps45
  go_wp2_with fail
  refine (HN.out x _).mono ?_
  rintro e w1 ⟨rfl, rfl⟩
  go_wp2_with fail
  refine (HN.out y _).mono ?_
  rintro e w1 ⟨rfl, rfl⟩
  by_cases h1 : x < y
  · have HR2 : Hid (cmpI x y = -1) := Lib.hid (by rw [HR.out, if_pos h1])
    go_wp2
    go_ret
    exact ⟨ret_int HR2.out.symm, rfl⟩
  · by_cases h2 : y < x
    · have HR2 : Hid (cmpI x y = 1) := Lib.hid (by rw [HR.out, if_neg h1, if_pos h2])
      go_wp2
      go_ret
      exact ⟨ret_int HR2.out.symm, rfl⟩
    · have HR2 : Hid (cmpI x y = 0) := Lib.hid (by rw [HR.out, if_neg h1, if_neg h2])
      go_wp2
      go_ret
      exact ⟨ret_int HR2.out.symm, rfl⟩
theorem or2_any (g c : Nat) (a b : Int) (w : World) (h0 : w.cell? ⟨g, 0, none⟩ = some (.int .i64 a)) (h1 : w.cell? ⟨g, 1, none⟩ = some (.int .i64 b)) :
    Calls Try.prog 44 #[.slice (some ⟨g, 0, none⟩) 2 c] w fun e w' => e = .returned (.int .i64 (or2 a b)) ∧ w = w' := by
  have HR : Hid (or2 a b = if a = 0 then b else a) := Lib.hid rfl
  go_enter Try.func44, Try.ntmps44
  go_wp2
  go_loop [8] (fun i => i = .int .i64 0 ∨ (i = .int .i64 1 ∧ a = 0) ∨ (i = .int .i64 2 ∧ a = 0 ∧ b = 0)) (fun i => 2 - (intOf i).toNat)
  case atStart => exact .inl rfl
  case round =>
    rcases hrel with rfl | ⟨rfl, ha⟩ | ⟨rfl, ha, hb⟩
    · by_cases ha : a = 0
      · subst ha
        go_wp2
        go_round
        case rel => exact .inr (.inl ⟨by go_num, trivial⟩)
        case measure => simp [intOf]
      · have HR2 : Hid (or2 a b = a) := Lib.hid (by rw [HR.out, if_neg ha])
        have e1 : (a != 0) = true := by simp [ha]
        go_wp2
        go_ret
        exact ⟨ret_int HR2.out.symm, rfl⟩
    · subst ha
      by_cases hb : b = 0
      · subst hb
        go_wp2
        go_round
        case rel => exact .inr (.inr ⟨by go_num, trivial, trivial⟩)
        case measure => simp [intOf]
      · have HR2 : Hid (or2 0 b = b) := Lib.hid (by rw [HR.out, if_pos rfl])
        have e1 : (b != 0) = true := by simp [hb]
        go_wp2
        go_ret
        exact ⟨ret_int HR2.out.symm, rfl⟩
    · subst ha hb
      have HR2 : Hid (or2 0 0 = 0) := Lib.hid (by rw [HR.out, if_pos rfl])
      go_wp2
      go_ret
      exact ⟨ret_int HR2.out.symm, rfl⟩
/-- The comparison of two players. -/
def cmpP (s : Nat → Int) (x y : Nat) : Int := or2 (cmpI (s x) (s y)) (cmpI (x : Int) (y : Int))
theorem cmpP_key (s : Nat → Int) (x y : Nat) (hx : x < 16) (hy : y < 16) : cmpP s x y < 0 ↔ ky s x < ky s y := by
  unfold cmpP or2 cmpI ky
  by_cases h1 : s x < s y
  · rw [if_pos h1]; simp; omega
  · rw [if_neg h1]
    by_cases h2 : s y < s x
    · rw [if_pos h2]; simp; omega
    · rw [if_neg h2, if_pos rfl]
      by_cases h3 : (x : Int) < (y : Int)
      · rw [if_pos h3]; constructor <;> intro _ <;> omega
      · rw [if_neg h3]
        by_cases h4 : (y : Int) < (x : Int)
        · rw [if_pos h4]; constructor <;> intro _ <;> omega
        · rw [if_neg h4]; constructor <;> intro _ <;> omega
set_option maxRecDepth 20000 in
set_option maxHeartbeats 1000000 in
theorem realCmp_any (bx : Nat) (G : Option Addr) (d n : Nat) (s : Nat → Int) (x y : Nat) (w : World) (hb : w.cell? ⟨bx, 0, none⟩ = some (.slice G n d)) (h : Row w w.heap.size G (ints (fz n s))) (hx : x < n) (hy : y < n) (hn : n ≤ 8) :
    Calls Try.prog 43 #[.int .i64 (x : Int), .int .i64 (y : Int), .pointer (some ⟨bx, 0, none⟩)] w fun e w' => e = .returned (.int .i64 (cmpP s x y)) ∧ Below w.heap.size w w' := by
  obtain ⟨g, off, rfl, hg, cx⟩ := h.int (k := x) (by rw [fz_length]; exact hx)
  obtain ⟨g', off', e, _, cy⟩ := h.int (k := y) (by rw [fz_length]; exact hy)
  simp only [Option.some.injEq, Addr.mk.injEq, and_true] at e
  obtain ⟨rfl, rfl⟩ := e
  rw [fz_get] at cx cy
  have HR : Hid (cmpP s x y = or2 (cmpI (s x) (s y)) (cmpI (x : Int) (y : Int))) := Lib.hid rfl
  have HC1 := Lib.hid (fun W' => compare_any (s x) (s y) W')
  have HC2 := Lib.hid (fun W' => compare_any (x : Int) (y : Int) W')
  have HO := Lib.hid (fun g c a b W' h0 h1 => or2_any g c a b W' h0 h1)
  generalize s x = u at *
  generalize s y = v at *
  generalize cmpI u v = k1 at *
  generalize cmpI (x : Int) (y : Int) = k2 at *
  go_enter Try.func43, Try.ntmps43
  go_wp2_with fail
  have hlb := World.block_lt_of_cell? w _ hb
  have HK := Lib.hid (fun W' (hW : Below w.heap.size w W') => (⟨hW, (hW.cell hlb).trans hb, (hW.cell (p := ⟨g, off + x, none⟩) hg).trans cx, (hW.cell (p := ⟨g, off + y, none⟩) hg).trans cy⟩ :
    Below w.heap.size w W' ∧ W'.cell? ⟨bx, 0, none⟩ = some (.slice (some ⟨g, off, none⟩) n d) ∧ W'.cell? ⟨g, off + x, none⟩ = some (.int .i64 u) ∧ W'.cell? ⟨g, off + y, none⟩ = some (.int .i64 v)))
  clear h hlb
  go_region_held3 (fun w' => Below w.heap.size w w' ∧ w'.cell? ⟨bx, 0, none⟩ = some (.slice (some ⟨g, off, none⟩) n d) ∧ w'.cell? ⟨g, off + x, none⟩ = some (.int .i64 u) ∧ w'.cell? ⟨g, off + y, none⟩ = some (.int .i64 v))
    ((refine HK.out _ ?_; go_grown))
    (first
      | (go_at_call 45; (with_reducible refine (HC1.out _).mono ?_); rintro e wq ⟨rfl, rfl⟩)
      | (go_at_call 45; (with_reducible refine (HC2.out _).mono ?_); rintro e wq ⟨rfl, rfl⟩)
      | (go_at_call 44; refine (HO.out _ _ k1 k2 _ (by go_simp) (by go_simp)).mono ?_; rintro e wq ⟨rfl, rfl⟩))
  all_goals
    go_wp2
    go_ret
    exact ⟨ret_int HR.out.symm, by go_grown⟩
end Go.Proofs.Ytaocjjocncoahaa
