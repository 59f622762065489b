/- Slices of strings, and the laws' helpers on them, walked: copy, compare, mark, hold against the marks, sizes; append. -/
import Derived.Test.YtaocjjocncoahaaDoorMem
import Derived.Test.YtaocjjocncoahaaDoorRows
import Derived.RegionTactic
import Derived.Deep.QuietTactic
import Derived.BigQuiet
import Derived.Outline
import Derived.Handy
import Derived.Laws.IdiomStrings
import Derived.Deep.RegionHeld3
import Derived.WalkLawsBesides
import Derived.WalkSpells
namespace Go.Proofs.YtaocjjocncoahaaDoor
open Go.RowKit

def strs (ss : List ByteArray) : List Value := ss.map Value.string
theorem strs_length (ss : List ByteArray) : (strs ss).length = ss.length := by simp [strs]
theorem strs_snoc (ss : List ByteArray) (s : ByteArray) : strs (ss ++ [s]) = strs ss ++ [.string s] := by simp [strs]
theorem Row.str {w : World} {B : Nat} {A : Option Addr} {ss : List ByteArray} (h : Row w B A (strs ss)) {k : Nat} (hk : k < ss.length) :
    ∃ b off, A = some ⟨b, off, none⟩ ∧ b < B ∧ w.cell? ⟨b, off + k, none⟩ = some (.string ss[k]) := by
  obtain ⟨b, off, e, hb, hc⟩ := h.at_ (k := k) (by rw [strs_length]; exact hk)
  exact ⟨b, off, e, hb, by rw [hc]; simp [strs]⟩
theorem Own.str {w : World} {lo hi : Nat} {t : TypeId} {A : Option Addr} {c : Nat} {ss : List ByteArray} (h : Own w lo hi t A c (strs ss)) {k : Nat} (hk : k < ss.length) :
    ∃ g, A = some ⟨g, 0, none⟩ ∧ lo ≤ g ∧ g < hi ∧ w.cell? ⟨g, k, none⟩ = some (.string ss[k]) ∧ w.frozen? ⟨g, k, none⟩ = false := by
  obtain ⟨g, e, a, b, hc, hf⟩ := h.at_ (k := k) (by rw [strs_length]; exact hk)
  exact ⟨g, e, a, b, by rw [hc]; simp [strs], hf⟩
/-- The call has laid a new row of strings and turned nothing that was there. -/
def NewStrs (w : World) (ss : List ByteArray) (e : Ending) (w' : World) : Prop :=
  ∃ A c, e = .returned (.slice A ss.length c) ∧ Own w' w.heap.size w'.heap.size 9 A c (strs ss) ∧ Below w.heap.size w w'

theorem str_info : (Tryd.prog.info? 9).map (fun i => (i.zero, i.size, i.bytes)) = some (some (.string ⟨#[]⟩), 1, 16) := by kernel_rfl
theorem own_strs (w : World) (lo n : Nat) (hlo : lo ≤ w.heap.size) (hn : n ≤ 1099511627776) :
    Own (w.alloc (.cells (madeCells #[.string ⟨#[]⟩] n) 9)) lo (w.heap.size + 1) 9 (some ⟨w.heap.size, 0, none⟩) n (strs (List.replicate n ⟨#[]⟩)) := by
  have h := Own.made w lo 9 (madeCells #[.string ⟨#[]⟩] n) hlo (by rw [size_madeCells]; unfold maxLen; omega)
  rw [size_madeCells, toList_madeCells_one] at h
  simpa [strs] using h
/-! ### markText: a letter and digits -/
def dgs : Nat → Nat → List UInt8
  | 0, _ => []
  | f + 1, k => if k = 0 then [] else dgs f (k / 10) ++ [UInt8.ofNat (48 + k % 10)]
theorem dgs_zero (f : Nat) : dgs f 0 = [] := by cases f <;> simp [dgs]
theorem dgs_len (f k : Nat) : (dgs f k).length ≤ f := by
  induction f generalizing k with
  | zero => simp [dgs]
  | succ f ih =>
    rw [dgs]
    split
    · simp
    · rw [List.length_append, List.length_singleton]; have := ih (k / 10); omega
def markT (k : Nat) : ByteArray := ⟨((109 : UInt8) :: dgs 20 k).toArray⟩
theorem u8_nat (m : Nat) (h : m < 10) : ((UInt8.ofNat (48 + m)).toNat : Int) = 48 + (m : Int) := by
  have : (UInt8.ofNat (48 + m)).toNat = 48 + m := by simp; omega
  omega
theorem mk_size (l : List UInt8) : (ByteArray.mk l.toArray).size = l.length := by show l.toArray.size = _; simp
theorem bytes_back (wr : World) (m : Nat) (h : m < 10) : (convert 68 9 (.slice (some ⟨wr.heap.size, 0, none⟩) 1 1)).run Tryd.prog (wr.alloc (.cells #[.int .u8 (48 + (m : Int))] 5)) = .ok (.string ⟨[UInt8.ofNat (48 + m)].toArray⟩) (wr.alloc (.cells #[.int .u8 (48 + (m : Int))] 5)) := by
  refine run_convert_bytes_back _ _ _ _ ⟨wr.heap.size, 0, none⟩ 1 [UInt8.ofNat (48 + m)] Tryd.underlying68 Tryd.underlying5 Tryd.underlying9 ?_
  intro j hj
  have : j = 0 := by simpa using hj
  subst this
  rw [List.getElem_cons_zero, u8_nat m h]
  show (wr.alloc _).cell? ⟨wr.heap.size, 0, none⟩ = _
  go_simp
def smarks (k n : Nat) : List ByteArray := (List.range n).map fun i => markT (k + i)
theorem smarks_length (k n : Nat) : (smarks k n).length = n := by simp [smarks]
theorem smarks_get (k n i : Nat) (h : i < (smarks k n).length) : (smarks k n)[i] = markT (k + i) := by simp [smarks]
theorem smarks_succ (k n : Nat) : smarks k (n + 1) = smarks k n ++ [markT (k + n)] := by simp [smarks, List.range_succ]
theorem smark_step (zs : List ByteArray) (k j : Nat) (hj : j < zs.length) : (strs (smarks k j ++ zs.drop j)).set j (.string (markT (k + j))) = strs (smarks k (j + 1) ++ zs.drop (j + 1)) := by
  unfold strs
  rw [← List.map_set, List.set_append_right _ _ (by rw [smarks_length]; omega), smarks_length, Nat.sub_self, smarks_succ, List.drop_eq_getElem_cons hj, List.set_cons_zero, List.append_assoc]
  rfl
def SMarked (w : World) (lo hi : Nat) (A : Option Addr) (c : Nat) (k n : Nat) (e : Ending) (w' : World) : Prop :=
  e = .returned (.int .i64 ((k + n : Nat) : Int)) ∧ Own w' lo hi 9 A c (strs (smarks k n)) ∧ Only lo hi w w'
/-! ### sizes -/
def szs (ss : List ByteArray) (k : Nat) : Nat := ((ss.take k).map ByteArray.size).sum
theorem szs_succ (ss : List ByteArray) (k : Nat) (h : k < ss.length) : szs ss (k + 1) = szs ss k + ss[k].size := by
  unfold szs
  rw [List.take_succ_eq_append_getElem h, List.map_append, List.sum_append]
  simp
theorem szs_mono (ss : List ByteArray) (k : Nat) (_ : k ≤ ss.length) : szs ss k ≤ szs ss ss.length := by
  unfold szs
  rw [List.take_length]
  have : ss = ss.take k ++ ss.drop k := (List.take_append_drop k ss).symm
  have e := congrArg (fun l : List ByteArray => (l.map ByteArray.size).sum) this
  simp only [List.map_append, List.sum_append] at e
  omega
/-! ### append -/
end Go.Proofs.YtaocjjocncoahaaDoor
