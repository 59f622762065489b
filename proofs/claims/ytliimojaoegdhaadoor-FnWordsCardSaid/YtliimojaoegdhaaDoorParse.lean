/- ParseInt, walked on both sides. -/
import Derived.Test.YtliimojaoegdhaaDoorParseP
import Derived.Test.YtliimojaoegdhaaDoorShelfD
namespace Go.Proofs.YtliimojaoegdhaaDoor
open Go.RowKit

theorem digs_at (t : ByteArray) (h : digs t.data.toList = true) (k : Nat) (hk : k < t.size) : ∃ d : Nat, d ≤ 9 ∧ t[k].toNat = 48 + d := by
  unfold digs at h
  rw [Bool.and_eq_true, List.all_eq_true] at h
  have := h.1 t[k] (List.mem_of_getElem? (getElem_data t k hk))
  unfold dig1 at this
  simp at this
  exact ⟨t[k].toNat - 48, by omega, by omega⟩
theorem tail_of (s : ByteArray) (h : 0 < s.size) (h0 : s[0] = 45) : s.data.toList = 45 :: (s.extract 1 s.size).data.toList := by
  rw [ByteArray.data_extract, Array.toList_extract, List.extract_eq_take_drop, List.take_of_length_le (by simp)]
  have e : s.data.toList[0]? = some s[0] := getElem_data s 0 h
  cases hl : s.data.toList with
  | nil => rw [hl] at e; simp at e
  | cons c r => rw [hl] at e; simp at e; simp [e, h0]
/-- What a call of ParseInt leaves. -/
def Parsed (s : ByteArray) (w : World) (e : Ending) (w' : World) : Prop := ∃ n ok, e = .returned (.tuple #[.int .i64 n, .bool ok]) ∧ PI s n ok ∧ Below w.heap.size w w'
theorem sParse_empty (s : ByteArray) (w : World) (hs : s.size = 0) : Calls Tryd.prog 16 #[.string s] w (Parsed s w) := by
  have hl : s.data.toList = [] := List.eq_nil_of_length_eq_zero hs
  have hd : digs s.data.toList = false := by rw [hl]; rfl
  have HP : PI s 0 false := (sgn_pos s (by rw [hl]; simp)).digs hd
  have hcall := fun (W' : World) => sDigits s W' (by unfold maxLen; omega)
  rw [hd] at hcall
  have HC := Lib.hid hcall
  clear hcall hd hl
  go_enter Tryd.func16, Tryd.ntmps16
  go_wp2_with fail
  refine (HC.out _).mono ?_
  rintro e w1 ⟨rfl, rfl⟩
  go_wp2
  refine bodyPost_ret (v := .tuple #[.int .i64 0, .bool false]) (by simp [results, Tryd.results16, go_sem]) rfl ⟨0, false, rfl, HP, Below.refl _ _⟩
set_option maxRecDepth 20000 in
theorem sParse_pos (s : ByteArray) (w : World) (hs : s.size ≤ 1048576) (hz : 0 < s.size) (h0 : s[0] ≠ 45) :
    Calls Tryd.prog 16 #[.string s] w (Parsed s w) := by
  have HS := Lib.hid (sgn_pos s (by
    rw [List.head?_eq_getElem?, getElem_data s 0 hz]
    simpa using h0))
  have e0 : (((s[0].toNat : Nat) : Int) == 45) = false := by
    rw [beq_eq_false_iff_ne]
    intro e
    exact h0 (UInt8.toNat_inj.1 (show s[0].toNat = (45 : UInt8).toNat by show _ = 45; omega))
  clear h0
  cases hd : digs s.data.toList with
  | false =>
    have hcall := fun (W' : World) => sDigits s W' (by unfold maxLen; omega)
    rw [hd] at hcall
    have HC := Lib.hid hcall
    have HP : PI s 0 false := HS.out.digs hd
    clear hcall hd
    go_enter Tryd.func16, Tryd.ntmps16
    go_wp2_with fail
    refine (HC.out _).mono ?_
    rintro e w1 ⟨rfl, rfl⟩
    go_wp2
    refine bodyPost_ret (v := .tuple #[.int .i64 0, .bool false]) (by simp [results, Tryd.results16, go_sem]) rfl ⟨0, false, rfl, HP, Below.refl _ _⟩
  | true =>
    have hcall := fun (W' : World) => sDigits s W' (by unfold maxLen; omega)
    rw [hd] at hcall
    have HC := Lib.hid hcall
    clear hcall
    by_cases hlong : 19 < s.size
    · have HP : PI s 0 false := HS.out.long hlong
      clear hd
      go_enter Tryd.func16, Tryd.ntmps16
      go_wp2_with fail
      refine (HC.out _).mono ?_
      rintro e w1 ⟨rfl, rfl⟩
      go_wp2
      refine bodyPost_ret (v := .tuple #[.int .i64 0, .bool false]) (by simp [results, Tryd.results16, go_sem]) rfl ⟨0, false, rfl, HP, Below.refl _ _⟩
    · have HD := Lib.hid (digs_at s hd)
      clear hd
      go_enter Tryd.func16, Tryd.ntmps16
      go_wp2_with fail
      refine (HC.out _).mono ?_
      rintro e w1 ⟨rfl, rfl⟩
      go_wp2
      go_loopw [6, 7] (fun n i wr => ∃ k v : Nat, k ≤ s.size ∧ i = .int .i64 (k : Int) ∧ n = .int .i64 (-(v : Int)) ∧ Hid (v = dv (s.data.toList.take k) 0) ∧ v ≤ 9223372036854775808 ∧ Below w.heap.size w wr) (fun _ i _ => s.size - (intOf i).toNat)
      case atStart => exact ⟨0, 0, Nat.zero_le _, rfl, rfl, Lib.hid rfl, by omega, Below.refl _ _⟩
      case round =>
        obtain ⟨k, v, hk, rfl, rfl, HV, hv, hb⟩ := hrel
        by_cases hlt : k < s.size
        · obtain ⟨d, hd9, hdc⟩ := HD.out k hlt
          have hat := getElem_data s k hlt
          obtain ⟨q, hq⟩ : ∃ q : Nat, q = (9223372036854775808 - d) / 10 := ⟨_, rfl⟩
          have E0 : IntKind.i64.wrap (48 + (d : Int) - 48) = (d : Int) := by rw [IntKind.wrap_i64]; omega
          have E1 : IntKind.i64.wrap (-9223372036854775808 + (d : Int)) = -9223372036854775808 + (d : Int) := by rw [IntKind.wrap_i64]; omega
          have E2 : Int.tdiv (-9223372036854775808 + (d : Int)) 10 = -(q : Int) := by
            rw [show (-9223372036854775808 + (d : Int)) = -((9223372036854775808 - d : Nat) : Int) by omega, Int.neg_tdiv, hq]; congr 1
          have E6 : IntKind.i64.wrap (-(q : Int)) = -(q : Int) := by rw [IntKind.wrap_i64]; omega
          have hcd : (s[k].toNat : Int) = 48 + (d : Int) := by omega
          by_cases hov : q < v
          · have HP : PI s 0 false := HS.out.over HV.out hat (by omega)
            clear hat hq
            go_wp2
            refine bodyPost_ret (v := .tuple #[.int .i64 0, .bool false]) (by simp [results, Tryd.results16, go_sem]) rfl ⟨0, false, rfl, HP, hb⟩
          · have HN := Lib.hid (take_dv s.data.toList k s[k] hat)
            have E3 : IntKind.i64.wrap (-(v : Int) * 10) = -(v : Int) * 10 := by rw [IntKind.wrap_i64]; omega
            have E4 : IntKind.i64.wrap (-(v : Int) * 10 - (d : Int)) = -((v * 10 + d : Nat) : Int) := by rw [IntKind.wrap_i64]; omega
            have E5 : -(v : Int) * 10 - (d : Int) = -((v * 10 + d : Nat) : Int) := by omega
            have hvd : v * 10 + d ≤ 9223372036854775808 := by omega
            have HV2 : Hid (v * 10 + d = dv (s.data.toList.take (k + 1)) 0) := Lib.hid (by rw [HN.out, ← HV.out]; omega)
            clear hat hq
            go_wp2
            go_roundw
            case rel => exact ⟨k + 1, v * 10 + d, by omega, by go_num, (by first | rfl | go_num | (congr 1; omega)), HV2, hvd, hb⟩
            case measure => simp [intOf]; omega
        · obtain rfl : k = s.size := by omega
          have HV2 : Hid (v = dv s.data.toList 0) := Lib.hid (by rw [HV.out, List.take_of_length_le (l := s.data.toList) (i := s.size) (Nat.le_refl _)])
          by_cases hmin : v = 9223372036854775808
          · have HP : PI s 0 false := HS.out.min (HV2.out.symm.trans hmin)
            have hm1 : ((-(v : Int)) == -9223372036854775808) = true := by rw [beq_iff_eq]; omega
            go_wp2
            refine bodyPost_ret (v := .tuple #[.int .i64 0, .bool false]) (by simp [results, Tryd.results16, go_sem]) rfl ⟨0, false, rfl, HP, hb⟩
          have hm1 : ((-(v : Int)) == -9223372036854775808) = false := by rw [beq_eq_false_iff_ne]; omega
          have hm2 : IntKind.i64.wrap (- -(v : Int)) = (v : Int) := by rw [IntKind.wrap_i64]; omega
          have hm3 : - -(v : Int) = (v : Int) := by omega
          have hI : InI (v : Int) := ⟨by omega, by omega⟩
          have HF := Lib.hid (fun W' => sFormat_any (v : Int) W' (WalkArith.wf_i64 hI))
          by_cases hfs : fmtI (v : Int) = s
          · have HP : PI s (v : Int) true := .inl ⟨rfl, hI, hfs.symm⟩
            have hx : ((fmtI (v : Int)).toList == s.toList) = true := by rw [hfs]; simp
            generalize fmtI (v : Int) = r at *
            clear hfs
            go_wp2_with fail
            refine (HF.out _).mono ?_
            rintro e w2 ⟨rfl, hb2⟩
            go_wp2
            refine bodyPost_ret (v := .tuple #[.int .i64 (v : Int), .bool true]) (by simp [results, Tryd.results16, go_sem]) rfl ⟨(v : Int), true, rfl, HP, below_trans hb hb2⟩
          · have HP : PI s 0 false := HS.out.other (n := (v : Int)) (by rw [← HV2.out]; rfl) hfs
            have hx := cmp_no hfs
            generalize fmtI (v : Int) = r at *
            clear hfs
            go_wp2_with fail
            refine (HF.out _).mono ?_
            rintro e w2 ⟨rfl, hb2⟩
            go_wp2
            refine bodyPost_ret (v := .tuple #[.int .i64 0, .bool false]) (by simp [results, Tryd.results16, go_sem]) rfl ⟨0, false, rfl, HP, below_trans hb hb2⟩
set_option maxRecDepth 20000 in
theorem sParse_neg (s : ByteArray) (w : World) (hs : s.size ≤ 1048576) (hz : 0 < s.size) (h0 : s[0] = 45) :
    Calls Tryd.prog 16 #[.string s] w (Parsed s w) := by
  have hl := tail_of s hz h0
  have e0 : (((s[0].toNat : Nat) : Int) == 45) = true := by rw [h0]; rfl
  have hts : (s.extract 1 s.size).size ≤ 1048576 := by rw [ByteArray.size_extract]; omega
  obtain ⟨t, ht⟩ : ∃ t, t = s.extract 1 s.size := ⟨_, rfl⟩
  rw [← ht] at hl hts
  have HT := Lib.hid ht
  have HS := Lib.hid (sgn_neg s t hl)
  clear h0 ht hl
  cases hd : digs t.data.toList with
  | false =>
    have hcall := fun (W' : World) => sDigits t W' (by unfold maxLen; omega)
    rw [hd] at hcall
    have HC := Lib.hid hcall
    have HP : PI s 0 false := HS.out.digs hd
    clear hcall hd
    go_enter Tryd.func16, Tryd.ntmps16
    go_wp2_with fail
    rw [← HT.out]
    refine (HC.out _).mono ?_
    rintro e w1 ⟨rfl, rfl⟩
    go_wp2
    refine bodyPost_ret (v := .tuple #[.int .i64 0, .bool false]) (by simp [results, Tryd.results16, go_sem]) rfl ⟨0, false, rfl, HP, Below.refl _ _⟩
  | true =>
    have hcall := fun (W' : World) => sDigits t W' (by unfold maxLen; omega)
    rw [hd] at hcall
    have HC := Lib.hid hcall
    clear hcall
    by_cases hlong : 19 < t.size
    · have HP : PI s 0 false := HS.out.long hlong
      clear hd
      go_enter Tryd.func16, Tryd.ntmps16
      go_wp2_with fail
      rw [← HT.out]
      refine (HC.out _).mono ?_
      rintro e w1 ⟨rfl, rfl⟩
      go_wp2
      refine bodyPost_ret (v := .tuple #[.int .i64 0, .bool false]) (by simp [results, Tryd.results16, go_sem]) rfl ⟨0, false, rfl, HP, Below.refl _ _⟩
    · have HD := Lib.hid (digs_at t hd)
      clear hd
      go_enter Tryd.func16, Tryd.ntmps16
      go_wp2_with fail
      rw [← HT.out]
      refine (HC.out _).mono ?_
      rintro e w1 ⟨rfl, rfl⟩
      go_wp2
      go_loopw [6, 7] (fun n i wr => ∃ k v : Nat, k ≤ t.size ∧ i = .int .i64 (k : Int) ∧ n = .int .i64 (-(v : Int)) ∧ Hid (v = dv (t.data.toList.take k) 0) ∧ v ≤ 9223372036854775808 ∧ Below w.heap.size w wr) (fun _ i _ => t.size - (intOf i).toNat)
      case atStart => exact ⟨0, 0, Nat.zero_le _, rfl, rfl, Lib.hid rfl, by omega, Below.refl _ _⟩
      case round =>
        obtain ⟨k, v, hk, rfl, rfl, HV, hv, hb⟩ := hrel
        by_cases hlt : k < t.size
        · obtain ⟨d, hd9, hdc⟩ := HD.out k hlt
          have hat := getElem_data t k hlt
          obtain ⟨q, hq⟩ : ∃ q : Nat, q = (9223372036854775808 - d) / 10 := ⟨_, rfl⟩
          have E0 : IntKind.i64.wrap (48 + (d : Int) - 48) = (d : Int) := by rw [IntKind.wrap_i64]; omega
          have E1 : IntKind.i64.wrap (-9223372036854775808 + (d : Int)) = -9223372036854775808 + (d : Int) := by rw [IntKind.wrap_i64]; omega
          have E2 : Int.tdiv (-9223372036854775808 + (d : Int)) 10 = -(q : Int) := by
            rw [show (-9223372036854775808 + (d : Int)) = -((9223372036854775808 - d : Nat) : Int) by omega, Int.neg_tdiv, hq]; congr 1
          have E6 : IntKind.i64.wrap (-(q : Int)) = -(q : Int) := by rw [IntKind.wrap_i64]; omega
          have hcd : (t[k].toNat : Int) = 48 + (d : Int) := by omega
          by_cases hov : q < v
          · have HP : PI s 0 false := HS.out.over HV.out hat (by omega)
            clear hat hq
            go_wp2
            refine bodyPost_ret (v := .tuple #[.int .i64 0, .bool false]) (by simp [results, Tryd.results16, go_sem]) rfl ⟨0, false, rfl, HP, hb⟩
          · have HN := Lib.hid (take_dv t.data.toList k t[k] hat)
            have E3 : IntKind.i64.wrap (-(v : Int) * 10) = -(v : Int) * 10 := by rw [IntKind.wrap_i64]; omega
            have E4 : IntKind.i64.wrap (-(v : Int) * 10 - (d : Int)) = -((v * 10 + d : Nat) : Int) := by rw [IntKind.wrap_i64]; omega
            have E5 : -(v : Int) * 10 - (d : Int) = -((v * 10 + d : Nat) : Int) := by omega
            have hvd : v * 10 + d ≤ 9223372036854775808 := by omega
            have HV2 : Hid (v * 10 + d = dv (t.data.toList.take (k + 1)) 0) := Lib.hid (by rw [HN.out, ← HV.out]; omega)
            clear hat hq
            go_wp2
            go_roundw
            case rel => exact ⟨k + 1, v * 10 + d, by omega, by go_num, (by first | rfl | go_num | (congr 1; omega)), HV2, hvd, hb⟩
            case measure => simp [intOf]; omega
        · obtain rfl : k = t.size := by omega
          have HV2 : Hid (v = dv t.data.toList 0) := Lib.hid (by rw [HV.out, List.take_of_length_le (l := t.data.toList) (i := t.size) (Nat.le_refl _)])
          have hI : InI (-(v : Int)) := ⟨by omega, by omega⟩
          have HF := Lib.hid (fun W' => sFormat_any (-(v : Int)) W' (WalkArith.wf_i64 hI))
          by_cases hfs : fmtI (-(v : Int)) = s
          · have HP : PI s (-(v : Int)) true := .inl ⟨rfl, hI, hfs.symm⟩
            have hx : ((fmtI (-(v : Int))).toList == s.toList) = true := by rw [hfs]; simp
            generalize fmtI (-(v : Int)) = r at *
            clear hfs
            go_wp2_with fail
            refine (HF.out _).mono ?_
            rintro e w2 ⟨rfl, hb2⟩
            go_wp2
            refine bodyPost_ret (v := .tuple #[.int .i64 (-(v : Int)), .bool true]) (by simp [results, Tryd.results16, go_sem]) rfl ⟨(-(v : Int)), true, rfl, HP, below_trans hb hb2⟩
          · have HP : PI s 0 false := HS.out.other (n := (-(v : Int))) (by rw [← HV2.out]; rfl) hfs
            have hx := cmp_no hfs
            generalize fmtI (-(v : Int)) = r at *
            clear hfs
            go_wp2_with fail
            refine (HF.out _).mono ?_
            rintro e w2 ⟨rfl, hb2⟩
            go_wp2
            refine bodyPost_ret (v := .tuple #[.int .i64 0, .bool false]) (by simp [results, Tryd.results16, go_sem]) rfl ⟨0, false, rfl, HP, below_trans hb hb2⟩
theorem sParse_any (s : ByteArray) (w : World) (hs : s.size ≤ 1048576) : Calls Tryd.prog 16 #[.string s] w (Parsed s w) := by
  by_cases hz : s.size = 0
  · exact sParse_empty s w hz
  · have hz' : 0 < s.size := by omega
    by_cases h0 : s[0] = 45
    · exact sParse_neg s w hs hz' h0
    · exact sParse_pos s w hs hz' h0
/-- The two errors of strconv's stand. -/
def Errs (w : World) : Prop := (∃ tp p, w.var? Tryd.prog "strconv.ErrSyntax" = some #[.iface tp p]) ∧ ∃ tp p, w.var? Tryd.prog "strconv.ErrRange" = some #[.iface tp p]
theorem Errs.on {w w' : World} (h : Errs w) (hb : Below w.heap.size w w') : Errs w' := by
  obtain ⟨g, hg⟩ := Option.isSome_iff_exists.1 (show (Tryd.prog.globalNamed "strconv.ErrSyntax").isSome = true by kernel_rfl)
  obtain ⟨g', hg'⟩ := Option.isSome_iff_exists.1 (show (Tryd.prog.globalNamed "strconv.ErrRange").isSome = true by kernel_rfl)
  obtain ⟨⟨tp, p, h1⟩, tq, q, h2⟩ := h
  exact ⟨⟨tp, p, Joins.var_stays hg h1 hb (Nat.le_refl _)⟩, tq, q, Joins.var_stays hg' h2 hb (Nat.le_refl _)⟩
theorem iParse_any (s : ByteArray) (w : World) (hs : s.size ≤ 1048576) (hp : Pow w) (he : Errs w) : Calls Tryd.prog 17 #[.string s] w (Parsed s w) := by
  cases ha : Lib.atoiAll s.data.toList
  · rename_i n
    have hI : InI n := Lib.atoiAll_bounds ha
    have hcall := Tryd.strconv_Atoi_ok s (by omega) n ha w
    have hcall2 : Calls Tryd.prog 38 #[.string s] w fun e w' => e = .returned (.tuple #[.int .i64 n, .nilIface]) ∧ Below w.heap.size w w' := hcall.mono fun e w' ⟨h1, h2⟩ => ⟨h1, by
      rcases h2 with rfl | ⟨t, rfl⟩
      · exact Below.refl _ _
      · exact Joins.below_bytesWorld _ _ _ _ (Nat.le_refl _)⟩
    have HC := Lib.hid hcall2
    have HF := Lib.hid (fun W' hp' => iFormat_any n W' (WalkArith.wf_i64 hI) hp')
    by_cases hfs : fmtI n = s
    · have HP := pi_ok ha hfs
      have hx : ((fmtI n).toList == s.toList) = true := by rw [hfs]; simp
      generalize fmtI n = r at *
      clear hfs hcall hcall2 ha
      go_enter Tryd.func17, Tryd.ntmps17
      go_wp2_with fail
      refine HC.out.mono ?_
      rintro e w1 ⟨rfl, hb1⟩
      go_wp2_with fail
      refine (HF.out _ (hp.on hb1)).mono ?_
      rintro e w2 ⟨rfl, hb2⟩
      go_wp2
      refine bodyPost_ret (v := .tuple #[.int .i64 n, .bool true]) (by simp [results, Tryd.results17, go_sem]) rfl ⟨n, true, rfl, HP, below_trans hb1 hb2⟩
    · have HP := pi_no (s := s) (fun m hm => by rw [ha] at hm; injection hm with hm; rw [← hm]; exact hfs)
      have hx := cmp_no hfs
      generalize fmtI n = r at *
      clear hfs hcall hcall2 ha
      go_enter Tryd.func17, Tryd.ntmps17
      go_wp2_with fail
      refine HC.out.mono ?_
      rintro e w1 ⟨rfl, hb1⟩
      go_wp2_with fail
      refine (HF.out _ (hp.on hb1)).mono ?_
      rintro e w2 ⟨rfl, hb2⟩
      go_wp2
      refine bodyPost_ret (v := .tuple #[.int .i64 0, .bool false]) (by simp [results, Tryd.results17, go_sem]) rfl ⟨0, false, rfl, HP, below_trans hb1 hb2⟩
  · have HP := pi_no (s := s) (fun m hm => by rw [ha] at hm; cases hm)
    obtain ⟨⟨tp, p, hv⟩, _⟩ := he
    have HC := Lib.hid (Tryd.strconv_Atoi_syntax_var s (by omega) ha tp p w hv)
    clear hv ha
    go_enter Tryd.func17, Tryd.ntmps17
    go_wp2_with fail
    refine HC.out.mono ?_
    rintro e w1 ⟨N, rfl, _, _, hb1⟩
    go_wp2
    refine bodyPost_ret (v := .tuple #[.int .i64 0, .bool false]) (by simp [results, Tryd.results17, go_sem]) rfl ⟨0, false, rfl, HP, hb1⟩
  · have HP := pi_no (s := s) (fun m hm => by rw [ha] at hm; cases hm)
    obtain ⟨_, tp, p, hv⟩ := he
    have HC := Lib.hid (Tryd.strconv_Atoi_range_var s (by omega) ha tp p w hv)
    clear hv ha
    go_enter Tryd.func17, Tryd.ntmps17
    go_wp2_with fail
    refine HC.out.mono ?_
    rintro e w1 ⟨N, rfl, _, _, hb1⟩
    go_wp2
    refine bodyPost_ret (v := .tuple #[.int .i64 0, .bool false]) (by simp [results, Tryd.results17, go_sem]) rfl ⟨0, false, rfl, HP, hb1⟩
end Go.Proofs.YtliimojaoegdhaaDoor
