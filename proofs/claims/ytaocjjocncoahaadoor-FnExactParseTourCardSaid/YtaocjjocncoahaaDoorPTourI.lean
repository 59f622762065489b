/- ParseTour, walked on the program's side (under way: the loops are wanted). -/
import Derived.Test.YtaocjjocncoahaaDoorPTourC
import Derived.Test.YtaocjjocncoahaaDoorParse
import Derived.Test.YtaocjjocncoahaaDoorShp
import Derived.Test.YtaocjjocncoahaaDoorTRes
namespace Go.Proofs.YtaocjjocncoahaaDoor
open Go.RowKit

theorem cut_len (l p : List UInt8) : (Lib.cut l p).1.length ≤ l.length ∧ (Lib.cut l p).2.1.length ≤ l.length := by
  unfold Lib.cut
  split
  · simp; omega
  · simp
/-- A result box has been laid, then a call: it stands. -/
theorem res1 {w w1 : World} {u0 u1 : Value} {t : TypeId} {k : Nat} (hb : Below ((w.alloc (.cells #[u0, u1] t)).drewN k).heap.size ((w.alloc (.cells #[u0, u1] t)).drewN k) w1) :
    (w1.cell? ⟨w.heap.size, 0, none⟩ = some u0 ∧ w1.cell? ⟨w.heap.size, 1, none⟩ = some u1) ∧ (w1.frozen? ⟨w.heap.size, 0, none⟩ = false ∧ w1.frozen? ⟨w.heap.size, 1, none⟩ = false) ∧ Below w.heap.size w w1 ∧ w.heap.size + 1 ≤ w1.heap.size :=
  ⟨⟨(hb.cell (p := ⟨w.heap.size, 0, none⟩) (by simp)).trans (by go_simp), (hb.cell (p := ⟨w.heap.size, 1, none⟩) (by simp)).trans (by go_simp)⟩,
    ⟨(hb.frozen (p := ⟨w.heap.size, 0, none⟩) (by simp)).trans (by go_simp), (hb.frozen (p := ⟨w.heap.size, 1, none⟩) (by simp)).trans (by go_simp)⟩,
    Below.trans ((below_drewN ((Below.refl _ _).alloc (Nat.le_refl _) _) k)) (hb.mono (by simp)), by have := hb.size; simpa using this⟩
theorem rFormat_text (V : List Nat) (hV : IsT V) {n : Nat} (hl : V.length = n) : rFormatTour (n : Int) (casts V) = textOf V := by
  subst hl
  unfold rFormatTour
  rw [tour_ok hV, toW_casts]
  rfl
theorem gpos_first (m a : Nat) : gpos m a (a + 1) = off m a := by unfold gpos; omega
theorem gpos_next (m a b : Nat) (h : a < b) : gpos m a (b + 1) = gpos m a b + 1 := by unfold gpos; omega
theorem gpos_last (m a : Nat) (h : a < m) : off m (a + 1) = gpos m a m := by unfold gpos; rw [off]; omega
theorem gpos_lt (m a b : Nat) (h8 : m ≤ 8) (hab : a < b) (hb : b < m) : gpos m a b < off m m := by
  have : ∀ m, m < 9 → ∀ b, b < m → ∀ a, a < b → gpos m a b < off m m := by decide +kernel
  exact this m (by omega) b hb a hab
theorem byte49 (x : UInt8) (v : Bool) (h : (x == 49) = v) : ((x.toNat : Int) == 49) = v := by
  subst h
  rw [Bool.eq_iff_iff, beq_iff_eq, beq_iff_eq]
  constructor
  · intro e
    exact UInt8.toNat_inj.1 (show x.toNat = (49 : UInt8).toNat by show _ = 49; omega)
  · rintro rfl; rfl
theorem byte_in (l : List UInt8) (k : Nat) (h : k < (ByteArray.mk l.toArray).size) : (ByteArray.mk l.toArray)[k] = l.getD k 0 := by
  rw [getD_lt _ _ _ (by rwa [mk_size] at h)]
  rfl
set_option maxRecDepth 20000 in
theorem iParseTour_any (s : ByteArray) (w : World) (hs : s.size ≤ 1048576) (hp : Pow w) (he : Errs w) (hsh : w.ShapedOpen Tryd.prog) :
    Calls Tryd.prog 7 #[.string s] w fun e w' => ∃ n zs ok, PT s n zs ok ∧ NewTourOk w n zs ok e w' := by
  have HC : Hid (∀ W' : World, W'.ShapedOpen Tryd.prog → Calls Tryd.prog 23 #[.string s, .string ⟨#[58]⟩] W' fun e w' => e = .returned (.tuple #[.string ⟨(Lib.cut s.data.toList [58]).1.toArray⟩, .string ⟨(Lib.cut s.data.toList [58]).2.1.toArray⟩, .bool (Lib.cut s.data.toList [58]).2.2]) ∧ ∃ n, w' = W'.drewN n) :=
    Lib.hid (fun W' hW => Tryd.strings_Cut_shaped s ⟨#[58]⟩ W' hW (by omega))
  obtain ⟨hl1, hl2⟩ := cut_len s.data.toList [58]
  have hl0 : s.data.toList.length = s.size := rfl
  have HP := Lib.hid (fun W' hp' he' => iParse_any ⟨(Lib.cut s.data.toList [58]).1.toArray⟩ W' (by rw [mk_size]; omega) hp' he')
  have HSZ := Lib.hid (fun (n : Int) ok (h : PI ⟨(Lib.cut s.data.toList [58]).1.toArray⟩ n ok) => pt_size s h)
  have HGM := Lib.hid (fun (n : Nat) ok (h : PI ⟨(Lib.cut s.data.toList [58]).1.toArray⟩ (n : Int) ok) => pt_games s h)
  have HCT := Lib.hid (fun (n : Nat) ok (h : PI ⟨(Lib.cut s.data.toList [58]).1.toArray⟩ (n : Int) ok) => pt_cut s h)
  have hgs : (ByteArray.mk (Lib.cut s.data.toList [58]).2.1.toArray).size = (Lib.cut s.data.toList [58]).2.1.length := mk_size _
  have hsh1 : (w.alloc (.cells #[.int .i64 0, .slice none 0 0] 24)).ShapedOpen Tryd.prog := shaped_below hsh ((Below.refl _ _).alloc (Nat.le_refl _) _)
  have HSH := Lib.hid hsh1
  clear hl0 hl1 hsh hsh1
  generalize (Lib.cut s.data.toList [58]).1 = nl at *
  generalize (Lib.cut s.data.toList [58]).2.1 = gl at *
  generalize (Lib.cut s.data.toList [58]).2.2 = fl at *
  go_enter Tryd.func7, Tryd.ntmps7
  go_wp2_with fail
  refine (HC.out _ HSH.out).mono ?_
  rintro e w0 ⟨rfl, k, rfl⟩
  have hb0 : Below w.heap.size w ((w.alloc (.cells #[.int .i64 0, .slice none 0 0] 24)).drewN k) := below_drewN ((Below.refl _ _).alloc (Nat.le_refl _) _) k
  have hp0 := hp.on hb0
  have he0 := he.on hb0
  go_wp2_with fail
  refine (HP.out _ hp0 he0).mono ?_
  rintro e w2 ⟨n, ok, rfl, hPI, hb⟩
  obtain ⟨⟨j0, j1⟩, ⟨f0, f1⟩, hbw, hsz⟩ := res1 hb
  clear hb0 hb hp0 he0
  by_cases hn : 1 ≤ n ∧ n ≤ 8
  · obtain ⟨m, rfl⟩ := Int.eq_ofNat_of_zero_le (show 0 ≤ n by omega)
    have h1 : 1 ≤ m := by omega
    have h8 : m ≤ 8 := by omega
    have HW := Lib.hid (fun W' => within_yes (m : Int) 1 8 W' (by omega) (by omega))
    obtain ⟨p, hm2, ho⟩ : ∃ p : Nat, (m : Int) * ((m : Int) - 1) = (p : Int) ∧ off m m = p / 2 := by
      have : ∀ m : Nat, m < 9 → 1 ≤ m → (m : Int) * ((m : Int) - 1) = ((m * (m - 1) : Nat) : Int) ∧ off m m = (m * (m - 1)) / 2 := by decide +kernel
      exact ⟨m * (m - 1), this m (by omega) h1⟩
    have hm3 : p ≤ 100 := by
      have h3 : (m : Int) * ((m : Int) - 1) ≤ 8 * 8 := Int.mul_le_mul (by omega) (by omega) (by omega) (by omega)
      omega
    have hm1 : IntKind.i64.wrap (p : Int) = (p : Int) := by rw [IntKind.wrap_i64]; omega
    by_cases hgl : gl.length = off m m
    · have HPT := Lib.hid (HCT.out m ok hPI h1 h8)
      have hne : ((gl.length : Int) != (p : Int) / 2) = false := by simp; omega
      have hmk := make_ints m (by omega)
      clear HC HP HSZ HGM HCT hPI
      go_wp2_with fail
      refine (HW.out _).mono ?_
      rintro e w3 ⟨rfl, rfl⟩
      go_wp2
      clear hmk
      obtain ⟨w5, hw5⟩ : ∃ w5, w5 = (w2.alloc (.cells (madeCells #[.int .i64 0] m) 3)).alloc (.cells #[.int .i64 (m : Int), .slice (some ⟨w2.heap.size, 0, none⟩) m m] 24) := ⟨_, rfl⟩
      rw [← hw5]
      have hb25 : Below w2.heap.size w2 w5 := by rw [hw5]; go_grown
      have t0 : w5.cell? ⟨w2.heap.size + 1, 0, none⟩ = some (.int .i64 (m : Int)) := by rw [hw5]; go_simp
      have t1 : w5.cell? ⟨w2.heap.size + 1, 1, none⟩ = some (.slice (some ⟨w2.heap.size, 0, none⟩) m m) := by rw [hw5]; go_simp
      have hsz5 : w2.heap.size + 2 ≤ w5.heap.size := by rw [hw5]; simp
      have ho5 : Own w5 w2.heap.size (w2.heap.size + 1) 3 (some ⟨w2.heap.size, 0, none⟩) m (ints (casts (gst m (fun k => gl.getD k 0 == 49) 0 0))) := by
        rw [hw5, gst_zero, casts_zeros]
        exact (own_made w2 w2.heap.size m (Nat.le_refl _) (by omega)).alloc (by simp) _
      have HO5 := Lib.hid ho5
      clear hw5 ho5
      go_loopw [9, 43] (fun v i wr => ∃ a : Nat, a ≤ m ∧ i = .int .i64 (a : Int) ∧ v = .int .i64 ((off m a : Nat) : Int) ∧ Own wr w2.heap.size (w2.heap.size + 1) 3 (some ⟨w2.heap.size, 0, none⟩) m (ints (casts (gst m (fun k => gl.getD k 0 == 49) a 0))) ∧ Only w2.heap.size (w2.heap.size + 1) w5 wr) (fun _ i _ => m - (intOf i).toNat)
      case atStart => exact ⟨0, Nat.zero_le _, rfl, rfl, HO5.out, Only.refl _ _ _⟩
      case round =>
        obtain ⟨a, ha, rfl, rfl, ho', hon⟩ := hrel
        have HO := Lib.hid ho'
        clear ho'
        by_cases hlt : a < m
        · go_wp2
          go_loopw [9, 12] (fun v i wr => ∃ b : Nat, a + 1 ≤ b ∧ b ≤ m ∧ i = .int .i64 (b : Int) ∧ v = .int .i64 ((gpos m a b : Nat) : Int) ∧ Own wr w2.heap.size (w2.heap.size + 1) 3 (some ⟨w2.heap.size, 0, none⟩) m (ints (casts (gst m (fun k => gl.getD k 0 == 49) a b))) ∧ Only w2.heap.size (w2.heap.size + 1) w5 wr) (fun _ i _ => m - (intOf i).toNat)
          case atStart => exact ⟨a + 1, by omega, by omega, by go_num, by rw [gpos_first], by rw [gst_low m _ a (a + 1) (Nat.le_refl _)]; exact HO.out, hon⟩
          case round =>
          obtain ⟨b, hab, hbm, rfl, rfl, ho', hon2⟩ := hrel
          have i0 := (hon2.cell (p := ⟨w2.heap.size + 1, 0, none⟩) (by simp; omega) (by simp)).trans t0
          have i1 := (hon2.cell (p := ⟨w2.heap.size + 1, 1, none⟩) (by simp; omega) (by simp)).trans t1
          have hszr := hon2.size
          by_cases hbn : b < m
          · have hgp := gpos_lt m a b h8 (by omega) hbn
            have hk : gpos m a b < (ByteArray.mk gl.toArray).size := by rw [hgs]; omega
            have hgs2 := Lib.hid (gpos_next m a b (by omega))
            have hget : (ByteArray.mk gl.toArray)[gpos m a b] = gl.getD (gpos m a b) 0 := byte_in gl _ hk
            cases hg : (gl.getD (gpos m a b) 0 == 49) with
            | true =>
              have hset := gst_win m (fun k => gl.getD k 0 == 49) a b (by omega) hbn hg
              have e1 : (((ByteArray.mk gl.toArray)[gpos m a b].toNat : Int) == 49) = true := by rw [hget]; exact byte49 _ _ hg
              obtain ⟨g', hg', _, _, hcell, hfz⟩ := ho'.nat (k := a) (by rw [gst_length]; omega)
              simp only [Option.some.injEq, Addr.mk.injEq, and_true] at hg'
              subst hg'
              rw [gst_get] at hcell
              have hx := Nat.lt_of_lt_of_le (ofB_lt m fun j => done a b a j && gameF m (fun k => gl.getD k 0 == 49) a j) (pow_le8 m h8)
              have ho3 := ho'.set a (.int .i64 (((ofB m fun j => done a b a j && gameF m (fun k => gl.getD k 0 == 49) a j) ||| 2 ^ b : Nat) : Int))
              rw [ints_casts_set, hset] at ho3
              generalize (ofB m fun j => done a b a j && gameF m (fun k => gl.getD k 0 == 49) a j) = x at *
              have E1 : bits .or .i64 (x : Int) ((2 : Int) ^ b) = ((x ||| 2 ^ b : Nat) : Int) := by rw [or_pow' b x (by omega) hx, Nat.or_comm]
              obtain ⟨q1, q2⟩ := pow_small b (by omega)
              have hw : IntKind.i64.wrap (2 ^ b) = 2 ^ b := by rw [IntKind.wrap_i64]; omega
              have HO3 := Lib.hid ho3
              generalize (x ||| 2 ^ b) = y at *
              generalize gpos m a b = q at *
              clear ho' ho3 hset hg hget
              go_wp2
              go_region
              go_wp2
              go_roundw
              case rel => exact ⟨b + 1, by omega, by omega, by go_num, by rw [hgs2.out]; go_num, HO3.out, (hon2.setCell (p := ⟨w2.heap.size, a, none⟩) (by simp) (by simp) _).drew⟩
              case measure => simp [intOf]; omega
            | false =>
              have hset := gst_lose m (fun k => gl.getD k 0 == 49) a b (by omega) hbn hg
              have e1 : (((ByteArray.mk gl.toArray)[gpos m a b].toNat : Int) == 49) = false := by rw [hget]; exact byte49 _ _ hg
              obtain ⟨g', hg', _, _, hcell, hfz⟩ := ho'.nat (k := b) (by rw [gst_length]; omega)
              simp only [Option.some.injEq, Addr.mk.injEq, and_true] at hg'
              subst hg'
              rw [gst_get] at hcell
              have hx := Nat.lt_of_lt_of_le (ofB_lt m fun j => done a b b j && gameF m (fun k => gl.getD k 0 == 49) b j) (pow_le8 m h8)
              have ho3 := ho'.set b (.int .i64 (((ofB m fun j => done a b b j && gameF m (fun k => gl.getD k 0 == 49) b j) ||| 2 ^ a : Nat) : Int))
              rw [ints_casts_set, hset] at ho3
              generalize (ofB m fun j => done a b b j && gameF m (fun k => gl.getD k 0 == 49) b j) = x at *
              have E1 : bits .or .i64 (x : Int) ((2 : Int) ^ a) = ((x ||| 2 ^ a : Nat) : Int) := by rw [or_pow' a x (by omega) hx, Nat.or_comm]
              obtain ⟨q1, q2⟩ := pow_small a (by omega)
              have hw : IntKind.i64.wrap (2 ^ a) = 2 ^ a := by rw [IntKind.wrap_i64]; omega
              have HO3 := Lib.hid ho3
              generalize (x ||| 2 ^ a) = y at *
              generalize gpos m a b = q at *
              clear ho' ho3 hset hg hget
              go_wp2
              go_region
              go_wp2
              go_roundw
              case rel => exact ⟨b + 1, by omega, by omega, by go_num, by rw [hgs2.out]; go_num, HO3.out, (hon2.setCell (p := ⟨w2.heap.size, b, none⟩) (by simp) (by simp) _).drew⟩
              case measure => simp [intOf]; omega
          · obtain rfl : b = m := by omega
            rw [gst_next] at ho'
            have HO2 := Lib.hid ho'
            have hgn := Lib.hid (gpos_last b a hlt)
            clear ho'
            go_wp2
            go_roundw
            case rel => exact ⟨a + 1, by omega, by go_num, by rw [hgn.out], HO2.out, hon2⟩
            case measure => simp [intOf]; omega
        · obtain rfl : a = m := by omega
          have hV := gameV_ok a (fun k => gl.getD k 0 == 49) h1 h8
          have hVl : (gameV a (fun k => gl.getD k 0 == 49)).length = a := by unfold gameV; rw [rowsOf_length]
          have ho2 := HO.out
          rw [gst_end] at ho2
          have hbr : Below w.heap.size w wr := hbw.trans ((hb25.mono (by omega)).trans (hon.below (by omega) (by omega)))
          have HF := iFormatTour_any (some ⟨w2.heap.size, 0, none⟩) a (a : Int) (casts (gameV a (fun k => gl.getD k 0 == 49))) wr (ho2.row.mono (by have := hon.size; omega)) (by rw [casts_length]; omega) (hp.on hbr)
          rw [casts_length, hVl, rFormat_text _ hV hVl] at HF
          have HF2 := Lib.hid HF
          have HO2 := Lib.hid ho2
          have HPT2 := Lib.hid HPT.out
          have hcl := Lib.hid ((casts_length (gameV a (fun k => gl.getD k 0 == 49))).trans hVl)
          clear ho2 HF HPT HO HO5
          generalize casts (gameV a (fun k => gl.getD k 0 == 49)) = zs at *
          generalize textOf (gameV a (fun k => gl.getD k 0 == 49)) = tx at *
          have z1 := hon.size
          have z2 := hb25.size
          have hb2r : Below w2.heap.size w2 wr := hb25.trans (hon.below (Nat.le_refl _) (by omega))
          have t0 := (hon.cell (p := ⟨w2.heap.size + 1, 0, none⟩) (by simp; omega) (by simp)).trans t0
          have t1 := (hon.cell (p := ⟨w2.heap.size + 1, 1, none⟩) (by simp; omega) (by simp)).trans t1
          go_wp2_with fail
          refine HF2.out.mono ?_
          rintro e w7 ⟨rfl, hb7⟩
          have hb27 : Below w2.heap.size w2 w7 := hb2r.trans (hb7.mono (by omega))
          obtain ⟨⟨s0, s1⟩, ⟨u0, u1⟩⟩ := res_keep j0 j1 f0 f1 hb27
          obtain ⟨v0, v1⟩ := held_at t0 t1 hb7
          have z7 := hb7.size
          have hb07 : Below w.heap.size w w7 := below_trans hbr hb7
          have HO7 := Lib.hid (HO2.out.below hb7 (by omega))
          by_cases hx : tx = s
          · have hP := HPT2.out.1 hx
            have hy : (tx.toList == s.toList) = true := by rw [hx]; simp
            clear hx
            go_wp2
            refine bodyPost_ret (v := .tuple #[.agg #[.int .i64 (a : Int), .slice (some ⟨w2.heap.size, 0, none⟩) a a], .bool true]) (by simp [results, Tryd.results7, go_sem, s0, s1]) rfl ⟨_, zs, true, hP, some ⟨w2.heap.size, 0, none⟩, a, by rw [hcl.out], ?_, ?_⟩
            · refine Own.mono (Own.setCell (Own.setCell HO7.out ?_ _) ?_ _) (by omega) (by simp; omega)
              all_goals (left; show w.heap.size < w2.heap.size; omega)
            · refine (hb07.setCell ?_ _).setCell ?_ _
              all_goals (show _ ≤ _; simp)
          · have hP := HPT2.out.2 hx
            have hy := cmp_no hx
            clear hx
            go_wp2
            refine bodyPost_ret (v := .tuple #[.agg #[.int .i64 0, .slice none 0 0], .bool false]) (by simp [results, Tryd.results7, go_sem, s0, s1]) rfl ⟨0, [], false, hP, newTourOk_none rfl rfl rfl ?_⟩
            refine (hb07.setCell ?_ _).setCell ?_ _
            all_goals (show _ ≤ _; simp)
    · have HPT := Lib.hid (HGM.out m ok hPI hgl)
      have hne : ((gl.length : Int) != (p : Int) / 2) = true := by simp; omega
      clear HC HP HSZ HGM HCT hgl ho hPI
      go_wp2_with fail
      refine (HW.out _).mono ?_
      rintro e w3 ⟨rfl, rfl⟩
      go_wp2
      refine bodyPost_ret (v := .tuple #[.agg #[.int .i64 0, .slice none 0 0], .bool false]) (by simp [results, Tryd.results7, go_sem, j0, j1]) rfl ⟨0, [], false, HPT.out, newTourOk_none rfl rfl rfl ?_⟩
      refine (hbw.setCell ?_ _).setCell ?_ _
      all_goals (show _ ≤ _; simp)
  · have HPT := Lib.hid (HSZ.out n ok hPI (by omega))
    have HW := Lib.hid (fun W' => within_no n 1 8 W' (by omega))
    clear HC HP HSZ HGM HCT
    go_wp2_with fail
    refine (HW.out _).mono ?_
    rintro e w3 ⟨rfl, rfl⟩
    go_wp2
    refine bodyPost_ret (v := .tuple #[.agg #[.int .i64 0, .slice none 0 0], .bool false]) (by simp [results, Tryd.results7, go_sem, j0, j1]) rfl ⟨0, [], false, HPT.out, newTourOk_none rfl rfl rfl ?_⟩
    refine (hbw.setCell ?_ _).setCell ?_ _
    all_goals (show _ ≤ _; simp)
end Go.Proofs.YtaocjjocncoahaaDoor
