/- The laws' own helpers on slices of int and on tours, walked: copy, compare, mark, hold against the marks, sizes. -/
import Derived.Test.YtaocjjocncoahaaMem
import Derived.Test.YtaocjjocncoahaaRows
import Derived.RegionTactic
import Derived.Deep.QuietTactic
import Derived.BigQuiet
import Derived.Outline
namespace Go.Proofs.Ytaocjjocncoahaa
open Go.RowKit

theorem int_info : (Try.prog.info? 3).map (fun i => (i.zero, i.size, i.bytes)) = some (some (.int .i64 0), 1, 8) := by kernel_rfl

/-- make([]int, n). -/
theorem make_ints (n : Nat) (hn : n ≤ 1099511627776) (W : World) :
    (Instr.makeSlice 24 (.int .i64 (n : Int)) (.int .i64 (n : Int))).run Try.prog W = .ok (.slice (some ⟨W.heap.size, 0, none⟩) n n) (W.alloc (.cells (madeCells #[.int .i64 0] n) 3)) := by
  obtain ⟨i0, hi, hz0, hz1, hz2⟩ := info_parts int_info
  have h := run_make (P := Try.prog) W 24 3 i0 _ Try.underlying24 hi hz0 .i64 .i64 (n : Int) (n : Int) (by omega) (by omega) (by rw [hz2]; omega) (by omega)
  rw [hz1] at h
  simpa [Value.cells] using h

theorem own_made (w : World) (lo n : Nat) (hlo : lo ≤ w.heap.size) (hn : n ≤ 1099511627776) :
    Own (w.alloc (.cells (madeCells #[.int .i64 0] n) 3)) lo (w.heap.size + 1) 3 (some ⟨w.heap.size, 0, none⟩) n (ints (List.replicate n 0)) := by
  have h := Own.made w lo 3 (madeCells #[.int .i64 0] n) hlo (by rw [size_madeCells]; unfold maxLen; omega)
  rw [size_madeCells, toList_madeCells_one] at h
  simpa [ints] using h

/-! ### toIntS: a copy -/
theorem copy_step (zs : List Int) (k : Nat) (hk : k < zs.length) :
    (ints (zs.take k ++ List.replicate (zs.length - k) 0)).set k (.int .i64 zs[k]) = ints (zs.take (k + 1) ++ List.replicate (zs.length - (k + 1)) 0) := by
  have e : zs.length - k = (zs.length - (k + 1)) + 1 := by omega
  rw [e, List.replicate_succ]
  unfold ints
  rw [← List.map_set]
  rw [List.set_append_right _ _ (by simp; omega)]
  simp only [List.length_take, Nat.min_eq_left (Nat.le_of_lt hk), Nat.sub_self, List.set_cons_zero]
  rw [List.take_succ_eq_append_getElem hk, List.append_assoc]
  rfl

theorem toIntS_any (A : Option Addr) (c : Nat) (zs : List Int) (w : World) (h : Row w w.heap.size A (ints zs)) (hl : zs.length ≤ 1048576) :
    Calls Try.prog 9 #[.slice A zs.length c] w (NewInts w 3 zs) := by
  have hmk := make_ints zs.length (by omega)
  go_enter Try.func9, Try.ntmps9
  go_wp2
  clear hmk
  go_loopw [4] (fun i wr => ∃ k : Nat, k ≤ zs.length ∧ i = .int .i64 k ∧ Own wr w.heap.size (w.heap.size + 1) 3 (some ⟨w.heap.size, 0, none⟩) zs.length (ints (zs.take k ++ List.replicate (zs.length - k) 0)) ∧ Below w.heap.size w wr)
    (fun i _ => zs.length - (intOf i).toNat)
  case atStart => exact ⟨0, Nat.zero_le _, rfl, by simpa using own_made w w.heap.size zs.length (Nat.le_refl _) (by omega), (Below.refl _ _).alloc (Nat.le_refl _) _⟩
  case round =>
    obtain ⟨k, hk, rfl, ho, hb⟩ := hrel
    by_cases hlt : k < zs.length
    · obtain ⟨b, off, rfl, hbB, hc⟩ := (h.below hb (Nat.le_refl _)).int hlt
      obtain ⟨g, hg, _, _, hc2, hf2⟩ := ho.int (k := k) (by simp; omega)
      simp only [Option.some.injEq, Addr.mk.injEq, and_true] at hg
      subst hg
      have ho2 := ho.set k (.int .i64 zs[k])
      rw [copy_step zs k hlt] at ho2
      have HO := Lib.hid ho2
      clear ho ho2
      go_wp2
      go_roundw
      case rel => exact ⟨k + 1, by omega, by go_num, HO.out, hb.setCell (p := ⟨w.heap.size, k, none⟩) (Nat.le_refl _) _⟩
      case measure => simp [intOf]; omega
    · have e : k = zs.length := by omega
      subst e
      go_wp2
      go_ret
      refine ⟨_, _, rfl, ?_, hb⟩
      have := ho.mono (Nat.le_refl _) (hi' := wr.heap.size) ho.lt
      simpa using this

/-! ### eqIntS: of two equal slices it says true -/
theorem eqIntS_any (A B : Option Addr) (c d : Nat) (zs : List Int) (w : World) (h : Row w w.heap.size A (ints zs)) (h' : Row w w.heap.size B (ints zs)) (hl : zs.length ≤ 1099511627776) :
    Calls Try.prog 12 #[.slice A zs.length c, .slice B zs.length d] w fun e w' => e = .returned (.bool true) ∧ Below w.heap.size w w' := by
  have e0 : ((zs.length : Int) != (zs.length : Int)) = false := by simp
  go_enter Try.func12, Try.ntmps12
  go_wp2
  go_loopw [5] (fun i wr => ∃ k : Nat, k ≤ zs.length ∧ i = .int .i64 k ∧ Below w.heap.size w wr) (fun i _ => zs.length - (intOf i).toNat)
  case atStart => exact ⟨0, Nat.zero_le _, rfl, Below.refl _ _⟩
  case round =>
    obtain ⟨k, hk, rfl, hb⟩ := hrel
    by_cases hlt : k < zs.length
    · obtain ⟨b, off, rfl, hbB, hc⟩ := (h.below hb (Nat.le_refl _)).int hlt
      obtain ⟨b', off', rfl, hbB', hc'⟩ := (h'.below hb (Nat.le_refl _)).int hlt
      go_wp2
      go_quiet (fail)
      go_wp2
      go_roundw
      case rel => exact ⟨k + 1, by omega, by go_num, below_drewN hb _⟩
      case measure => simp [intOf]; omega
    · go_wp2
      go_ret
      exact ⟨rfl, hb⟩

/-! ### markIntS writes k, k + 1, ..; heldIntS asks for just these -/
def marks (k : Int) (n : Nat) : List Int := (List.range n).map fun (i : Nat) => k + (i : Int)
theorem marks_length (k : Int) (n : Nat) : (marks k n).length = n := by simp [marks]
theorem marks_get (k : Int) (n i : Nat) (h : i < (marks k n).length) : (marks k n)[i] = k + (i : Int) := by simp [marks]
theorem marks_succ (k : Int) (n : Nat) : marks k (n + 1) = marks k n ++ [k + (n : Int)] := by simp [marks, List.range_succ]
theorem mark_step (zs : List Int) (k : Int) (j : Nat) (hj : j < zs.length) :
    (ints (marks k j ++ zs.drop j)).set j (.int .i64 (k + (j : Int))) = ints (marks k (j + 1) ++ zs.drop (j + 1)) := by
  unfold ints
  rw [← List.map_set, List.set_append_right _ _ (by rw [marks_length]; omega), marks_length, Nat.sub_self, marks_succ, List.drop_eq_getElem_cons hj, List.set_cons_zero, List.append_assoc]
  rfl

def Marked (w : World) (lo hi : Nat) (A : Option Addr) (c : Nat) (k : Int) (n : Nat) (e : Ending) (w' : World) : Prop :=
  e = .returned (.int .i64 (k + (n : Int))) ∧ Own w' lo hi 3 A c (ints (marks k n)) ∧ Only lo hi w w'

theorem markIntS_any (A : Option Addr) (c : Nat) (zs : List Int) (k : Int) (lo hi : Nat) (w : World) (h : Own w lo hi 3 A c (ints zs))
    (hl : zs.length ≤ 1099511627776) (h0 : 0 ≤ k) (h1 : k ≤ 1099511627776) :
    Calls Try.prog 13 #[.slice A zs.length c, .int .i64 k] w (Marked w lo hi A c k zs.length) := by
  go_enter Try.func13, Try.ntmps13
  go_wp2
  go_loopw [1, 5] (fun m i wr => ∃ j : Nat, j ≤ zs.length ∧ i = .int .i64 j ∧ m = .int .i64 (k + (j : Int)) ∧ Own wr lo hi 3 A c (ints (marks k j ++ zs.drop j)) ∧ Only lo hi w wr) (fun _ i _ => zs.length - (intOf i).toNat)
  case atStart => exact ⟨0, Nat.zero_le _, rfl, by simp, by simpa [marks] using h, Only.refl _ _ _⟩
  case round =>
    obtain ⟨j, hj, rfl, rfl, ho, hb⟩ := hrel
    by_cases hlt : j < zs.length
    · obtain ⟨g, rfl, hg1, hg2, hc2, hf2⟩ := ho.int (k := j) (by simp [marks_length]; omega)
      have ho2 := ho.set j (.int .i64 (k + (j : Int)))
      rw [mark_step zs k j hlt] at ho2
      have HO := Lib.hid ho2
      clear ho ho2
      go_wp2
      go_roundw
      case rel => exact ⟨j + 1, by omega, by go_num, by go_num, HO.out, hb.setCell (p := ⟨g, j, none⟩) hg1 hg2 _⟩
      case measure => simp [intOf]; omega
    · have e : j = zs.length := by omega
      subst e
      have HO : Own wr lo hi 3 A c (ints (marks k zs.length)) := by simpa using ho
      go_wp2
      go_ret
      exact ⟨rfl, HO, hb⟩

theorem heldIntS_any (A : Option Addr) (c n : Nat) (k : Int) (w : World) (h : Row w w.heap.size A (ints (marks k n))) (hl : n ≤ 1099511627776) (h0 : 0 ≤ k) (h1 : k ≤ 1099511627776) :
    Calls Try.prog 47 #[.slice A n c, .int .i64 k] w fun e w' => e = .returned (.int .i64 (k + (n : Int))) ∧ w = w' := by
  go_enter Try.func47, Try.ntmps47
  go_wp2
  go_loop [1, 5] (fun m i => ∃ j : Nat, j ≤ n ∧ i = .int .i64 j ∧ m = .int .i64 (k + (j : Int))) (fun _ i => n - (intOf i).toNat)
  case atStart => exact ⟨0, Nat.zero_le _, rfl, by simp⟩
  case round =>
    obtain ⟨j, hj, rfl, rfl⟩ := hrel
    by_cases hlt : j < n
    · obtain ⟨b, off, rfl, hbB, hc⟩ := h.int (k := j) (by rw [marks_length]; exact hlt)
      rw [marks_get] at hc
      go_wp2
      go_round
      case rel => exact ⟨j + 1, by omega, by go_num, by go_num⟩
      case measure => simp [intOf]; omega
    · have e : j = n := by omega
      subst e
      go_wp2
      go_ret
      exact ⟨rfl, rfl⟩

/-! ### sizes -/
end Go.Proofs.Ytaocjjocncoahaa
