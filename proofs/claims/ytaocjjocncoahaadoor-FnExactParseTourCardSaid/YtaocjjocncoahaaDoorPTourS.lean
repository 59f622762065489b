/- ParseTour, walked on the reference's side. -/
import Derived.Test.YtaocjjocncoahaaDoorPTourB
import Derived.Test.YtaocjjocncoahaaDoorOf
import Derived.Test.YtaocjjocncoahaaDoorPTourI
namespace Go.Proofs.YtaocjjocncoahaaDoor
open Go.RowKit

theorem byte_at' (s : ByteArray) (i : Nat) (h : i < s.size) : s[i] = s.data.toList.getD i 0 := by
  rw [getD_lt _ _ _ (by simpa using h)]
  rfl
theorem byte49' (x : UInt8) (v : Bool) (h : (x == 49) = v) : ((x.toNat : Int) == 49) = v := byte49 x v h
theorem bitS_lt (s : ByteArray) (k : Nat) (h : k ≤ 38) : bitS s k < 274877906944 := by
  have h1 := ofB_lt k (one49 s)
  have h2 : 2 ^ k ≤ 2 ^ 38 := Nat.pow_le_pow_right (by omega) h
  unfold bitS
  have h3 : (2 : Nat) ^ 38 = 274877906944 := by decide
  omega
theorem pow_k (k : Nat) (h : k ≤ 38) : (2 : Nat) ^ k ≤ 274877906944 ∧ (1 : Int) ≤ 2 ^ k ∧ (2 : Int) ^ k ≤ 274877906944 := by
  have : ∀ k, k < 39 → (2 : Nat) ^ k ≤ 274877906944 ∧ (1 : Int) ≤ 2 ^ k ∧ (2 : Int) ^ k ≤ 274877906944 := by decide +kernel
  exact this k (by omega)
set_option maxRecDepth 20000 in
theorem sParseTour_any (s : ByteArray) (w : World) (hs : s.size ≤ 1048576) :
    Calls Tryd.prog 6 #[.string s] w fun e w' => ∃ n zs ok, PT s n zs ok ∧ NewTourOk w n zs ok e w' := by
  have HF1 := Lib.hid (pt_first s)
  by_cases h2 : s.size < 2
  · have HPT := Lib.hid (HF1.out (.inl h2))
    go_enter Tryd.func6, Tryd.ntmps6
    go_wp2
    refine bodyPost_ret (v := .tuple #[.agg #[.int .i64 0, .slice none 0 0], .bool false]) (by simp [results, Tryd.results6, go_sem]) rfl ⟨0, [], false, HPT.out, newTourOk_none rfl rfl rfl ?_⟩
    go_grown
  · have hat := byte_at' s 0 (by omega)
    obtain ⟨d, hd⟩ : ∃ d : Nat, d = (s.data.toList.getD 0 0).toNat := ⟨_, rfl⟩
    have hdl : d < 256 := by rw [hd]; exact UInt8.toNat_lt _
    rw [← hd] at HF1
    have HDD := Lib.hid hd
    have hd0 : (s[0].toNat : Int) = (d : Int) := by rw [hat, ← hd]
    have h0 : 0 < s.size := by omega
    clear hat hd
    by_cases hn : 49 ≤ d ∧ d ≤ 56
    · obtain ⟨n, hnd⟩ : ∃ n : Nat, d = 48 + n := ⟨d - 48, by omega⟩
      have h1 : 1 ≤ n := by omega
      have h8 : n ≤ 8 := by omega
      have HPB := Lib.hid (fun k hk => pt_bits s n k h1 h8 (by rw [← HDD.out, hnd]) hk)
      have HW := Lib.hid (fun W' => sIn_yes (n : Int) 1 8 W' (by omega) (by omega))
      have HO := Lib.hid (fun W' k (hk : k ≤ 38) => sOf_any n (bitS s k) W' h1 h8 (by have := bitS_lt s k hk; omega))
      have hwd : IntKind.i64.wrap (d : Int) = (d : Int) := by rw [IntKind.wrap_i64]; omega
      have hw2 : (d : Int) - 48 = (n : Int) := by omega
      clear HF1 HDD hnd hn
      go_enter Tryd.func6, Tryd.ntmps6
      go_wp2_with fail
      refine (HW.out _).mono ?_
      rintro e w3 ⟨rfl, rfl⟩
      go_wp2
      obtain ⟨w1, hw1⟩ : ∃ w1, w1 = w.alloc (.cells #[.int .i64 0, .slice none 0 0] 24) := ⟨_, rfl⟩
      rw [← hw1]
      have r0 : w1.cell? ⟨w.heap.size, 0, none⟩ = some (.int .i64 0) := by rw [hw1]; go_simp
      have r1 : w1.cell? ⟨w.heap.size, 1, none⟩ = some (.slice none 0 0) := by rw [hw1]; go_simp
      have f0 : w1.frozen? ⟨w.heap.size, 0, none⟩ = false := by rw [hw1]; go_simp
      have f1 : w1.frozen? ⟨w.heap.size, 1, none⟩ = false := by rw [hw1]; go_simp
      have hbw : Below w.heap.size w w1 := by rw [hw1]; go_grown
      have hsz : w1.heap.size = w.heap.size + 1 := by rw [hw1]; simp
      have HSZ := Lib.hid hsz
      have hsz1 : w.heap.size + 1 ≤ w1.heap.size := by omega
      clear hw1 hsz h0 hd0 hwd hw2 hdl
      go_loop [5, 6] (fun v i => ∃ k : Nat, k ≤ 38 ∧ k + 2 ≤ s.size ∧ i = .int .i64 ((k : Int) + 2) ∧ v = .int .i64 ((bitS s k : Nat) : Int)) (fun _ i => 40 - (intOf i).toNat)
      case atStart => exact ⟨0, by omega, by omega, rfl, rfl⟩
      case round =>
        obtain ⟨k, hk, hks, rfl, rfl⟩ := hrel
        have hwk : IntKind.i64.wrap ((k : Int) + 2) = (k : Int) + 2 := by rw [IntKind.wrap_i64]; omega
        by_cases hlt : k + 2 < s.size ∧ k < 38
        · obtain ⟨hlt, h38⟩ := hlt
          have hg1 : (k : Int) + 2 < (s.size : Int) := by omega
          have hg2 : (k : Int) + 2 < 40 := by omega
          have hat := byte_at' s (k + 2) hlt
          have HST := Lib.hid (bitS_step s k)
          have hbl := bitS_lt s k hk
          obtain ⟨p1, p2, p3⟩ := pow_k k hk
          have hwp : IntKind.i64.wrap (2 ^ k) = 2 ^ k := by rw [IntKind.wrap_i64]; omega
          have hk2 : (k : Int) + 2 - 2 = (k : Int) := by omega
          have hwk2 : IntKind.i64.wrap (k : Int) = (k : Int) := by rw [IntKind.wrap_i64]; omega
          cases hg : (s.data.toList.getD (k + 2) 0 == 49) with
          | true =>
            have HON := Lib.hid (show one49 s k = true from hg)
            have e1 : ((s[k + 2].toNat : Int) == 49) = true := by rw [hat]; exact byte49 _ _ hg
            have E1 : bits .or .i64 ((bitS s k : Nat) : Int) ((2 : Int) ^ k) = ((bitS s k ||| 2 ^ k : Nat) : Int) := by
              rw [pow_cast]
              exact or_nat (bitS s k) (2 ^ k) (by omega) (by omega)
            have hs2 : Hid (bitS s k ||| 2 ^ k = bitS s (k + 1)) := Lib.hid (by rw [HST.out, HON.out, if_pos rfl])
            generalize bitS s k ||| 2 ^ k = y at *
            generalize bitS s k = x at *
            clear hat hg
            go_wp2
            go_round
            case rel => exact ⟨k + 1, by omega, by omega, by go_num, by rw [hs2.out]⟩
            case measure => simp [intOf]; omega
          | false =>
            have HON := Lib.hid (show one49 s k = false from hg)
            have e1 : ((s[k + 2].toNat : Int) == 49) = false := by rw [hat]; exact byte49 _ _ hg
            have hs2 : Hid (bitS s k = bitS s (k + 1)) := Lib.hid (by rw [HST.out, HON.out]; simp)
            generalize bitS s k = x at *
            clear hat hg
            go_wp2
            go_round
            case rel => exact ⟨k + 1, by omega, by omega, by go_num, by rw [hs2.out]⟩
            case measure => simp [intOf]; omega
        · have hend : s.size ≤ k + 2 ∨ 38 ≤ k := by omega
          have HPT := Lib.hid (HPB.out k hend)
          have HOF := Lib.hid (fun W' => HO.out W' k hk)
          have hVok := Lib.hid (gameV_ok n (fun j => (bitS s k).testBit j) h1 h8)
          have hVl := Lib.hid (show (gameV n (fun j => (bitS s k).testBit j)).length = n by unfold gameV; rw [rowsOf_length])
          have HFT := Lib.hid (rFormat_text _ hVok.out hVl.out)
          have hcl := Lib.hid ((casts_length (gameV n (fun j => (bitS s k).testBit j))).trans hVl.out)
          have hsplit : (¬ (k : Int) + 2 < (s.size : Int)) ∨ ((k : Int) + 2 < (s.size : Int) ∧ ¬ (k : Int) + 2 < 40) := by omega
          clear HPB HO hend
          generalize casts (gameV n (fun j => (bitS s k).testBit j)) = zs at *
          generalize textOf (gameV n (fun j => (bitS s k).testBit j)) = tx at *
          generalize bitS s k = x at *
          clear hlt
          rcases hsplit with hA | ⟨hA, hB⟩
          all_goals
            go_wp2_with fail
            refine (HOF.out _).mono ?_
            rintro e w3 ⟨A, c, rfl, ho, hb⟩
            have hz3 := hb.size
            have HFM := sFormatTour_any A c (n : Int) zs (w3.alloc (.cells #[.int .i64 (n : Int), .slice A zs.length c] 24)) ((ho.alloc (Nat.le_refl _) _).row.mono (by simp)) (by rw [hcl.out]; omega)
            rw [HFT.out] at HFM
            have HF2 := Lib.hid HFM
            have HO := Lib.hid ho
            clear ho HFM
            go_wp2_with fail
            refine HF2.out.mono ?_
            rintro e w4 ⟨rfl, hb4⟩
            have t0 : w4.cell? ⟨w3.heap.size, 0, none⟩ = some (.int .i64 (n : Int)) := (hb4.cell (p := ⟨w3.heap.size, 0, none⟩) (by simp)).trans (by go_simp)
            have t1 : w4.cell? ⟨w3.heap.size, 1, none⟩ = some (.slice A zs.length c) := (hb4.cell (p := ⟨w3.heap.size, 1, none⟩) (by simp)).trans (by go_simp)
            have hb34 : Below w3.heap.size w3 w4 := Below.trans (by go_grown) (hb4.mono (by simp))
            have hb14 : Below w1.heap.size w1 w4 := below_trans hb hb34
            obtain ⟨⟨s0, s1⟩, ⟨u0, u1⟩⟩ := res_keep r0 r1 f0 f1 hb14
            have hb04 : Below w.heap.size w w4 := below_trans hbw hb14
            have z4 := hb34.size
            have HO4 := Lib.hid (HO.out.below hb34 (Nat.le_refl _))
            have HSZ1 := Lib.hid HSZ.out
            by_cases hx : tx = s
            · have hP := HPT.out.1 hx
              have hy : (tx.toList == s.toList) = true := by rw [hx]; simp
              clear hx
              go_wp2
              refine bodyPost_ret (v := .tuple #[.agg #[.int .i64 (n : Int), .slice A zs.length c], .bool true]) (by simp [results, Tryd.results6, go_sem, s0, s1]) rfl ⟨_, zs, true, hP, A, c, rfl, ?_, ?_⟩
              · refine Own.mono (Own.setCell (Own.setCell HO4.out ?_ _) ?_ _) (by omega) (by simp; omega)
                all_goals (left; show w.heap.size < w1.heap.size; omega)
              · refine (hb04.setCell ?_ _).setCell ?_ _
                all_goals (show _ ≤ _; simp)
            · have hP := HPT.out.2 hx
              have hy := cmp_no hx
              clear hx
              go_wp2
              refine bodyPost_ret (v := .tuple #[.agg #[.int .i64 0, .slice none 0 0], .bool false]) (by simp [results, Tryd.results6, go_sem, s0, s1]) rfl ⟨0, [], false, hP, newTourOk_none rfl rfl rfl ?_⟩
              refine (hb04.setCell ?_ _).setCell ?_ _
              all_goals (show _ ≤ _; simp)
    · have HPT := Lib.hid (HF1.out (.inr (by omega)))
      have HW := Lib.hid (fun W' => sIn_no ((d : Int) - 48) 1 8 W' (by omega))
      have hwd : IntKind.i64.wrap (d : Int) = (d : Int) := by rw [IntKind.wrap_i64]; omega
      clear HF1 HDD
      go_enter Tryd.func6, Tryd.ntmps6
      go_wp2_with fail
      refine (HW.out _).mono ?_
      rintro e w3 ⟨rfl, rfl⟩
      go_wp2
      refine bodyPost_ret (v := .tuple #[.agg #[.int .i64 0, .slice none 0 0], .bool false]) (by simp [results, Tryd.results6, go_sem]) rfl ⟨0, [], false, HPT.out, newTourOk_none rfl rfl rfl ?_⟩
      go_grown
end Go.Proofs.YtaocjjocncoahaaDoor
