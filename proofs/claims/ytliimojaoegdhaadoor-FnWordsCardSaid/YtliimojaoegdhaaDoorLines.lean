/- SplitLines, walked on both sides. -/
import Derived.Test.YtliimojaoegdhaaDoorLinesP
import Derived.Test.YtliimojaoegdhaaDoorShelfD
namespace Go.Proofs.YtliimojaoegdhaaDoor
open Go.RowKit

/-- A call has laid a row of strings; how much lies behind it is not said. -/
def NewStrsC (w : World) (ss : List ByteArray) (e : Ending) (w' : World) : Prop :=
  ∃ A c d, e = .returned (.slice A ss.length c) ∧ Own w' w.heap.size w'.heap.size 9 A d (strs ss) ∧ Below w.heap.size w w'
theorem Own.takeS {w : World} {lo hi : Nat} {A : Option Addr} {c : Nat} {ss : List ByteArray} (h : Own w lo hi 9 A c (strs ss)) (k : Nat) (hk : k ≤ ss.length) : Own w lo hi 9 A c (strs (ss.take k)) := by
  have e : strs (ss.take k) = (strs ss).take k := by simp [strs, List.map_take]
  rw [e]
  rcases h with ⟨h1, h2, h3⟩ | ⟨g, cur, h1, h2, h3, h4, h5, h6, h7, h8⟩
  · exact .inl ⟨h1, by rw [h2]; simp, h3⟩
  · refine .inr ⟨g, cur, h1, h2, h3, h4, by rw [List.length_take]; omega, h6, h7, ?_⟩
    rw [List.length_take, strs_length, Nat.min_eq_left hk]
    rw [strs_length] at h8
    rw [← h8, List.take_take, Nat.min_eq_left hk]
theorem shaped_below {P : Program} {w w' : World} (h : w.ShapedOpen P) (hb : Below w.heap.size w w') : w'.ShapedOpen P :=
  h.keptBut (may := fun _ => False) ⟨hb.os, hb.output, fun i hi => by
    rw [hb.block i hi]
    split
    · rename_i h1 h2
      rw [h1] at h2
      injection h2 with h2
      injection h2 with a b c
      subst a; subst b; subst c
      exact ⟨rfl, rfl, rfl, fun _ _ => rfl⟩
    · rename_i h1 h2
      rw [h1] at h2
      injection h2 with h2
      injection h2 with a b
      exact .inr ⟨a.symm, b.symm⟩
    · rfl⟩ (fun _ h => h.elim)
theorem markStringsC (A : Option Addr) (c d : Nat) (zs : List ByteArray) (k : Nat) (lo hi : Nat) (w : World) (h : Own w lo hi 9 A d (strs zs)) (hhi : hi ≤ w.heap.size) (hl : zs.length ≤ 1048577) (h0 : 1 ≤ k) (h1 : k ≤ 1048577) :
    Calls Tryd.prog 14 #[.slice A zs.length c, .int .i64 (k : Int)] w (SMarked w lo hi A d k zs.length) := by
  go_enter Tryd.func14, Tryd.ntmps14
  go_wp2
  go_loopw [1, 5] (fun m i wr => ∃ j : Nat, j ≤ zs.length ∧ i = .int .i64 j ∧ m = .int .i64 ((k + j : Nat) : Int) ∧ Own wr lo hi 9 A d (strs (smarks k j ++ zs.drop j)) ∧ Only lo hi w wr) (fun _ i _ => zs.length - (intOf i).toNat)
  case atStart => exact ⟨0, Nat.zero_le _, rfl, by simp, by simpa [smarks] using h, Only.refl _ _ _⟩
  case round =>
    obtain ⟨j, hj, rfl, rfl, ho, hb⟩ := hrel
    have hsz := hb.size
    by_cases hlt : j < zs.length
    · have HS := Lib.hid (smark_step zs k j hlt)
      have HO := Lib.hid ho
      clear ho h
      generalize hkj : k + j = kj at *
      have HKJ := Lib.hid hkj
      have hkj1 : 1 ≤ kj := by omega
      have hkj2 : kj ≤ 1099511627776 := by omega
      clear hkj
      go_wp2_with fail
      refine (markText_any kj _ hkj1 hkj2).mono ?_
      rintro e w2 ⟨rfl, hb2⟩
      have ho2 := HO.out.below hb2 (by omega)
      obtain ⟨g, rfl, hg1, hg2, hc2, hf2⟩ := ho2.str (k := j) (by simp [smarks_length]; omega)
      have ho3 := ho2.set j (.string (markT kj))
      rw [HS.out] at ho3
      have HO3 := Lib.hid ho3
      have hb3 := hb.trans (Only.of_below (lo := lo) (hi := hi) hb2)
      clear ho2 ho3 hb2
      go_wp2
      go_roundw
      case rel => exact ⟨j + 1, by omega, by go_num, by rw [show k + (j + 1) = kj + 1 by have := HKJ.out; omega]; go_num, HO3.out, hb3.setCell (p := ⟨g, j, none⟩) hg1 hg2 _⟩
      case measure => simp [intOf]; omega
    · have e : j = zs.length := by omega
      subst e
      have HO : Own wr lo hi 9 A d (strs (smarks k zs.length)) := by simpa using ho
      go_wp2
      go_ret
      exact ⟨rfl, HO, hb⟩
theorem last_str {w : World} {lo hi : Nat} {A : Option Addr} {c : Nat} {ss : List ByteArray} (h : Own w lo hi 9 A c (strs ss)) (hn : 1 ≤ ss.length) :
    ∃ g, A = some ⟨g, 0, none⟩ ∧ w.cell? ⟨g, ss.length - 1, none⟩ = some (.string (ss[ss.length - 1]?.getD ⟨#[]⟩)) := by
  obtain ⟨g, e, _, _, hc, _⟩ := h.str (k := ss.length - 1) (by omega)
  exact ⟨g, e, by rw [hc, List.getElem?_eq_getElem (by omega)]; rfl⟩
theorem ne_emp {a : ByteArray} (h : a ≠ ⟨#[]⟩) : a.toList.isEmpty = false := by
  cases e : a.toList with
  | nil => rw [ByteArray.toList_eq] at e; exact absurd (data_inj (b := ⟨#[]⟩) (by rw [e])) h
  | cons _ _ => rfl
theorem iSplit_any (s : ByteArray) (w : World) (hs : s.size ≤ 1048576) (hsh : w.ShapedOpen Tryd.prog) :
    Calls Tryd.prog 34 #[.string s, .string ⟨#[10]⟩] w (NewStrs w (rSplitAny s ⟨#[10]⟩)) := by
  refine (Tryd.strings_Split_shaped s ⟨#[10]⟩ w hsh (by omega) (by decide)).mono ?_
  rintro e w' ⟨rfl, rfl⟩
  rw [split_two s ⟨#[10]⟩ 10 rfl, count_two s ⟨#[10]⟩ 10 rfl]
  have hl := rSplitAny_len s ⟨#[10]⟩
  refine ⟨_, _, rfl, ?_, (Below.refl _ _).alloc (Nat.le_refl _) _⟩
  have h := Own.made w w.heap.size 9 ((rSplitAny s ⟨#[10]⟩).map Value.string).toArray (Nat.le_refl _) (by simp; unfold maxLen; omega)
  simpa [strs] using h
theorem clip_any (A : Option Addr) (n c : Nat) (w : World) (h : n ≤ c) (_ : c ≤ 9223372036854775807) :
    Calls Tryd.prog 35 #[.slice A n c] w fun e w' => e = .returned (.slice A n n) ∧ Below w.heap.size w w' := by
  go_enter Tryd.func35, Tryd.ntmps35
  go_wp2
  go_ret
  exact ⟨rfl, Below.refl _ _⟩
theorem iSplitLines_any (s : ByteArray) (w : World) (hs : s.size ≤ 1048576) (hsh : w.ShapedOpen Tryd.prog) :
    Calls Tryd.prog 12 #[.string s] w (NewStrsC w (rSplitLines s)) := by
  have HC := Lib.hid (iSplit_any s w hs hsh)
  have hl := rSplitAny_len s ⟨#[10]⟩
  have HR : Hid (rSplitLines s = if (rSplitAny s ⟨#[10]⟩)[(rSplitAny s ⟨#[10]⟩).length - 1]? = some ⟨#[]⟩ then (rSplitAny s ⟨#[10]⟩).take ((rSplitAny s ⟨#[10]⟩).length - 1) else rSplitAny s ⟨#[10]⟩) := Lib.hid rfl
  generalize rSplitLines s = R at *
  generalize rSplitAny s ⟨#[10]⟩ = ss at *
  clear hsh
  go_enter Tryd.func12, Tryd.ntmps12
  go_wp2_with fail
  refine HC.out.mono ?_
  rintro e w1 ⟨A, c, rfl, ho, hb⟩
  obtain ⟨hlc, hcm⟩ := ho.cap
  rw [strs_length] at hlc
  obtain ⟨g, rfl, hlast⟩ := last_str ho hl.1
  obtain ⟨k, hk⟩ : ∃ k, ss.length = k + 1 := ⟨ss.length - 1, by omega⟩
  have HO := Lib.hid ho
  have hcm2 : c ≤ 9223372036854775807 := by first | exact hcm | (unfold maxLen at hcm; omega)
  rw [hk] at HR hlast hlc
  rw [hk]
  rw [Nat.add_sub_cancel] at HR hlast
  clear ho hcm
  by_cases hz : ss[k]? = some ⟨#[]⟩
  · have HR2 : Hid (R = ss.take k) := Lib.hid (by rw [HR.out, if_pos hz])
    rw [hz] at hlast
    simp only [Option.getD_some] at hlast
    have HT := Lib.hid (HO.out.takeS k (by omega))
    have HL : Hid ((ss.take k).length = k) := Lib.hid (by rw [List.length_take]; omega)
    clear hz HR
    go_wp2_with fail
    refine (clip_any _ k c _ (by omega) hcm2).mono ?_
    rintro e w2 ⟨rfl, hb2⟩
    go_wp2
    go_ret
    exact ⟨_, _, c, ret_slice (by rw [HR2.out, HL.out]), by rw [HR2.out]; exact (HT.out.below hb2 (Nat.le_refl _)).mono (Nat.le_refl _) hb2.size, below_trans hb hb2⟩
  · have HR2 : Hid (R = ss) := Lib.hid (by rw [HR.out, if_neg hz])
    generalize hz2 : ss[k]?.getD ⟨#[]⟩ = z at *
    have hne : z ≠ ⟨#[]⟩ := by
      intro e
      apply hz
      rw [List.getElem?_eq_getElem (by omega)] at hz2 ⊢
      rw [Option.getD_some] at hz2
      rw [hz2, e]
    have hx := ne_emp hne
    clear hz hz2 HR hne
    go_wp2_with fail
    refine (clip_any _ (k + 1) c _ (by omega) hcm2).mono ?_
    rintro e w2 ⟨rfl, hb2⟩
    go_wp2
    go_ret
    exact ⟨_, _, c, ret_slice (by rw [HR2.out, hk]), by rw [HR2.out]; exact (HO.out.below hb2 (Nat.le_refl _)).mono (Nat.le_refl _) hb2.size, below_trans hb hb2⟩
theorem sSplitLines_any (s : ByteArray) (w : World) (hs : s.size ≤ 1048576) :
    Calls Tryd.prog 11 #[.string s] w (NewStrsC w (rSplitLines s)) := by
  have HC := Lib.hid (sSplitAny_any s ⟨#[10]⟩ w hs (by decide))
  have hl := rSplitAny_len s ⟨#[10]⟩
  have HR : Hid (rSplitLines s = if (rSplitAny s ⟨#[10]⟩)[(rSplitAny s ⟨#[10]⟩).length - 1]? = some ⟨#[]⟩ then (rSplitAny s ⟨#[10]⟩).take ((rSplitAny s ⟨#[10]⟩).length - 1) else rSplitAny s ⟨#[10]⟩) := Lib.hid rfl
  generalize rSplitLines s = R at *
  generalize rSplitAny s ⟨#[10]⟩ = ss at *
  go_enter Tryd.func11, Tryd.ntmps11
  go_wp2_with fail
  refine HC.out.mono ?_
  rintro e w1 ⟨A, c, rfl, ho, hb⟩
  obtain ⟨hlc, hcm⟩ := ho.cap
  rw [strs_length] at hlc
  obtain ⟨g, rfl, hlast⟩ := last_str ho hl.1
  obtain ⟨k, hk⟩ : ∃ k, ss.length = k + 1 := ⟨ss.length - 1, by omega⟩
  have HO := Lib.hid ho
  rw [hk] at HR hlast hlc
  rw [hk]
  rw [Nat.add_sub_cancel] at HR hlast
  clear ho hcm
  by_cases hz : ss[k]? = some ⟨#[]⟩
  · have HR2 : Hid (R = ss.take k) := Lib.hid (by rw [HR.out, if_pos hz])
    rw [hz] at hlast
    simp only [Option.getD_some] at hlast
    have HT := Lib.hid (HO.out.takeS k (by omega))
    have HL : Hid ((ss.take k).length = k) := Lib.hid (by rw [List.length_take]; omega)
    clear hz HR
    go_wp2
    go_ret
    exact ⟨_, _, c, ret_slice (by rw [HR2.out, HL.out]), by rw [HR2.out]; exact HT.out, hb⟩
  · have HR2 : Hid (R = ss) := Lib.hid (by rw [HR.out, if_neg hz])
    generalize hz2 : ss[k]?.getD ⟨#[]⟩ = z at *
    have hne : z ≠ ⟨#[]⟩ := by
      intro e
      apply hz
      rw [List.getElem?_eq_getElem (by omega)] at hz2 ⊢
      rw [Option.getD_some] at hz2
      rw [hz2, e]
    have hx := ne_emp hne
    clear hz hz2 HR hne
    go_wp2
    go_ret
    exact ⟨_, _, c, ret_slice (by rw [HR2.out, hk]), by rw [HR2.out]; exact HO.out, hb⟩
end Go.Proofs.YtliimojaoegdhaaDoor
