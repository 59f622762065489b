/- FormatInt on both sides, at every int, the table of powers of ten being laid. -/
import Derived.Test.YtaocjjocncoahaaDoorFmtInt
import Derived.Test.YtaocjjocncoahaaDoorShelfD
import Derived.Lib.SmallJoins
namespace Go.Proofs.YtaocjjocncoahaaDoor
open Go.RowKit
open Go.Sort (grow)

theorem below_grow (w : World) (k : Nat) (os : Array Obj) : Below w.heap.size w (grow (w.drewN k) os) :=
  ⟨rfl, rfl, rfl, by simp [grow], fun g hg => by
    show (w.heap ++ os)[g]? = w.heap[g]?
    rw [Array.getElem?_append_left hg]⟩
/-- The library's table of powers of ten stands. -/
def Pow (w : World) : Prop := Lib.TabIs Tryd.prog w "internal/strconv.uint64pow10" .u64 Lib.pow10Tab
theorem Pow.on {w w' : World} (h : Pow w) (hb : Below w.heap.size w w') : Pow w' := by
  obtain ⟨g, hg⟩ := Option.isSome_iff_exists.1 (show (Tryd.prog.globalNamed "internal/strconv.uint64pow10").isSome = true by kernel_rfl)
  exact Joins.tab_stays hg h hb (Nat.le_refl _)
theorem wf_i64_bd {n : Int} (h : (Lit.int .i64 n).wf = true) : -9223372036854775808 ≤ n ∧ n ≤ 9223372036854775807 := by
  have h2 : (decide (IntKind.i64.min ≤ n) && decide (n ≤ IntKind.i64.max)) = true := h
  rw [Bool.and_eq_true, decide_eq_true_iff, decide_eq_true_iff] at h2
  exact h2
def fmtI (n : Int) : ByteArray := ⟨(Lib.itoa n).toArray⟩
theorem sFormat_any (n : Int) (w : World) (hn : (Lit.int .i64 n).wf = true) :
    Calls Tryd.prog 41 #[.int .i64 n] w fun e w' => e = .returned (.string (fmtI n)) ∧ Below w.heap.size w w' := by
  have h := wf_i64_bd hn
  unfold fmtI
  by_cases h0 : n < 0
  · have := sFormat_neg n.natAbs n w (by omega) (by omega) (by omega)
    rwa [show Lib.itoa n = (45 : UInt8) :: Lib.decDigits n.natAbs by unfold Lib.itoa; rw [if_pos h0]]
  · obtain ⟨k, rfl⟩ := Int.eq_ofNat_of_zero_le (show 0 ≤ n by omega)
    have := sFormat_nat k w (by omega)
    rwa [show Lib.itoa (k : Int) = Lib.decDigits k by unfold Lib.itoa; rw [if_neg h0]; simp]
theorem iFormat_any (n : Int) (w : World) (hn : (Lit.int .i64 n).wf = true) (hp : Pow w) :
    Calls Tryd.prog 45 #[.int .i64 n] w fun e w' => e = .returned (.string (fmtI n)) ∧ Below w.heap.size w w' := by
  have h := wf_i64_bd hn
  have HC := Lib.hid (Tryd.strconv_Itoa n h.1 h.2 w hp)
  clear h hn
  go_enter Tryd.func45, Tryd.ntmps45
  go_wp2_with fail
  refine HC.out.mono ?_
  rintro e w1 ⟨rfl, k, os, rfl⟩
  go_wp2
  go_ret
  exact ⟨rfl, below_grow w k os⟩
end Go.Proofs.YtaocjjocncoahaaDoor
