/- ParseInt, walked on both sides. -/
import Derived.Test.YtaocjjocncoahaaDoorParseP
import Derived.Test.YtaocjjocncoahaaDoorShelfD
namespace Go.Proofs.YtaocjjocncoahaaDoor
open Go.RowKit

theorem digs_at (t : ByteArray) (h : digs t.data.toList = true) (k : Nat) (hk : k < t.size) : ∃ d : Nat, d ≤ 9 ∧ t[k].toNat = 48 + d := by
  unfold digs at h
  rw [Bool.and_eq_true, List.all_eq_true] at h
  have := h.1 t[k] (List.mem_of_getElem? (getElem_data t k hk))
  unfold dig1 at this
  simp at this
  exact ⟨t[k].toNat - 48, by omega, by omega⟩
theorem tail_of (s : ByteArray) (h : 0 < s.size) (h0 : s[0] = 45) : s.data.toList = 45 :: (s.extract 1 s.size).data.toList := by
  rw [ByteArray.data_extract, Array.toList_extract, List.extract_eq_take_drop, List.take_of_length_le (by simp)]
  have e : s.data.toList[0]? = some s[0] := getElem_data s 0 h
  cases hl : s.data.toList with
  | nil => rw [hl] at e; simp at e
  | cons c r => rw [hl] at e; simp at e; simp [e, h0]
/-- What a call of ParseInt leaves. -/
def Parsed (s : ByteArray) (w : World) (e : Ending) (w' : World) : Prop := ∃ n ok, e = .returned (.tuple #[.int .i64 n, .bool ok]) ∧ PI s n ok ∧ Below w.heap.size w w'
/-- The two errors of strconv's stand. -/
def Errs (w : World) : Prop := (∃ tp p, w.var? Tryd.prog "strconv.ErrSyntax" = some #[.iface tp p]) ∧ ∃ tp p, w.var? Tryd.prog "strconv.ErrRange" = some #[.iface tp p]
theorem Errs.on {w w' : World} (h : Errs w) (hb : Below w.heap.size w w') : Errs w' := by
  obtain ⟨g, hg⟩ := Option.isSome_iff_exists.1 (show (Tryd.prog.globalNamed "strconv.ErrSyntax").isSome = true by kernel_rfl)
  obtain ⟨g', hg'⟩ := Option.isSome_iff_exists.1 (show (Tryd.prog.globalNamed "strconv.ErrRange").isSome = true by kernel_rfl)
  obtain ⟨⟨tp, p, h1⟩, tq, q, h2⟩ := h
  exact ⟨⟨tp, p, Joins.var_stays hg h1 hb (Nat.le_refl _)⟩, tq, q, Joins.var_stays hg' h2 hb (Nat.le_refl _)⟩
theorem iParse_any (s : ByteArray) (w : World) (hs : s.size ≤ 1048576) (hp : Pow w) (he : Errs w) : Calls Tryd.prog 24 #[.string s] w (Parsed s w) := by
  cases ha : Lib.atoiAll s.data.toList
  · rename_i n
    have hI : InI n := Lib.atoiAll_bounds ha
    have hcall := Tryd.strconv_Atoi_ok s (by omega) n ha w
    have hcall2 : Calls Tryd.prog 44 #[.string s] w fun e w' => e = .returned (.tuple #[.int .i64 n, .nilIface]) ∧ Below w.heap.size w w' := hcall.mono fun e w' ⟨h1, h2⟩ => ⟨h1, by
      rcases h2 with rfl | ⟨t, rfl⟩
      · exact Below.refl _ _
      · exact Joins.below_bytesWorld _ _ _ _ (Nat.le_refl _)⟩
    have HC := Lib.hid hcall2
    have HF := Lib.hid (fun W' hp' => iFormat_any n W' (WalkArith.wf_i64 hI) hp')
    by_cases hfs : fmtI n = s
    · have HP := pi_ok ha hfs
      have hx : ((fmtI n).toList == s.toList) = true := by rw [hfs]; simp
      generalize fmtI n = r at *
      clear hfs hcall hcall2 ha
      go_enter Tryd.func24, Tryd.ntmps24
      go_wp2_with fail
      refine HC.out.mono ?_
      rintro e w1 ⟨rfl, hb1⟩
      go_wp2_with fail
      refine (HF.out _ (hp.on hb1)).mono ?_
      rintro e w2 ⟨rfl, hb2⟩
      go_wp2
      refine bodyPost_ret (v := .tuple #[.int .i64 n, .bool true]) (by simp [results, Tryd.results24, go_sem]) rfl ⟨n, true, rfl, HP, below_trans hb1 hb2⟩
    · have HP := pi_no (s := s) (fun m hm => by rw [ha] at hm; injection hm with hm; rw [← hm]; exact hfs)
      have hx := cmp_no hfs
      generalize fmtI n = r at *
      clear hfs hcall hcall2 ha
      go_enter Tryd.func24, Tryd.ntmps24
      go_wp2_with fail
      refine HC.out.mono ?_
      rintro e w1 ⟨rfl, hb1⟩
      go_wp2_with fail
      refine (HF.out _ (hp.on hb1)).mono ?_
      rintro e w2 ⟨rfl, hb2⟩
      go_wp2
      refine bodyPost_ret (v := .tuple #[.int .i64 0, .bool false]) (by simp [results, Tryd.results24, go_sem]) rfl ⟨0, false, rfl, HP, below_trans hb1 hb2⟩
  · have HP := pi_no (s := s) (fun m hm => by rw [ha] at hm; cases hm)
    obtain ⟨⟨tp, p, hv⟩, _⟩ := he
    have HC := Lib.hid (Tryd.strconv_Atoi_syntax_var s (by omega) ha tp p w hv)
    clear hv ha
    go_enter Tryd.func24, Tryd.ntmps24
    go_wp2_with fail
    refine HC.out.mono ?_
    rintro e w1 ⟨N, rfl, _, _, hb1⟩
    go_wp2
    refine bodyPost_ret (v := .tuple #[.int .i64 0, .bool false]) (by simp [results, Tryd.results24, go_sem]) rfl ⟨0, false, rfl, HP, hb1⟩
  · have HP := pi_no (s := s) (fun m hm => by rw [ha] at hm; cases hm)
    obtain ⟨_, tp, p, hv⟩ := he
    have HC := Lib.hid (Tryd.strconv_Atoi_range_var s (by omega) ha tp p w hv)
    clear hv ha
    go_enter Tryd.func24, Tryd.ntmps24
    go_wp2_with fail
    refine HC.out.mono ?_
    rintro e w1 ⟨N, rfl, _, _, hb1⟩
    go_wp2
    refine bodyPost_ret (v := .tuple #[.int .i64 0, .bool false]) (by simp [results, Tryd.results24, go_sem]) rfl ⟨0, false, rfl, HP, hb1⟩
end Go.Proofs.YtaocjjocncoahaaDoor
