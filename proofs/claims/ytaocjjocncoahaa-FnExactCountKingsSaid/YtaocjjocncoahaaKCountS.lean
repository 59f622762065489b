/- CountKings, walked on the reference's side. -/
import Derived.Test.YtaocjjocncoahaaKCount
import Derived.Test.YtaocjjocncoahaaOf
namespace Go.Proofs.Ytaocjjocncoahaa
open Go.RowKit

theorem sCountKings_any (n k : Int) (w : World) (_ : (Lit.int .i64 n).wf = true) (_ : (Lit.int .i64 k).wf = true) :
    Calls Try.prog 6 #[.int .i64 n, .int .i64 k] w fun e w' => e = .returned (.int .i64 (rCountKings n k)) ∧ Below w.heap.size w w' := by
  by_cases hn : 1 ≤ n ∧ n ≤ 5
  · have HW := Lib.hid (fun W' => sIn_yes n 1 5 W' (by omega) (by omega))
    by_cases hk : 0 ≤ k ∧ k ≤ n
    · have HW2 := Lib.hid (fun W' => sIn_yes k 0 n W' (by omega) (by omega))
      have HR : Hid (rCountKings n k = (kc n.toNat k.toNat (2 ^ off n.toNat n.toNat) : Nat)) := Lib.hid (by unfold rCountKings; rw [if_pos ⟨hn, hk⟩])
      obtain ⟨n, rfl⟩ := Int.eq_ofNat_of_zero_le (show 0 ≤ n by omega)
      obtain ⟨k, rfl⟩ := Int.eq_ofNat_of_zero_le (show 0 ≤ k by omega)
      rw [Int.toNat_natCast, Int.toNat_natCast] at HR
      have h1 : 1 ≤ n := by omega
      have h5 : n ≤ 5 := by omega
      have hkn : k ≤ n := by omega
      obtain ⟨p, q, hp, hq, hoff, hq10, hp20⟩ := pairs5 n h1 h5
      rw [hoff] at HR
      obtain ⟨M, hM⟩ : ∃ M, M = 2 ^ q := ⟨_, rfl⟩
      have hM2 : (2 : Int) ^ q = (M : Int) := by rw [hM, pow_cast]
      have hMle : M ≤ 1024 := by rw [hM]; exact (pow10 q hq10).1
      rw [← hM] at HR
      have hwp : IntKind.i64.wrap (p : Int) = (p : Int) := by rw [IntKind.wrap_i64]; omega
      have hwq : IntKind.i64.wrap (q : Int) = (q : Int) := by rw [IntKind.wrap_i64]; omega
      have hwM : IntKind.i64.wrap (M : Int) = (M : Int) := by rw [IntKind.wrap_i64]; omega
      have HOF := Lib.hid (fun W' c (hc : c < 1024) => sOf_any n c W' h1 (by omega) (by omega))
      have HVO := Lib.hid (fun c : Nat => gameV_ok n (fun j => c.testBit j) h1 (by omega))
      have HVL := Lib.hid (fun c : Nat => gameV_length n (fun j => c.testBit j))
      have HKC := Lib.hid (show ∀ c, kc n k (c + 1) = kc n k c + if kingsIs n k c then 1 else 0 from fun _ => rfl)
      have HKI := Lib.hid (show ∀ c, kingsIs n k c = (pc 8 (kingsN (gameV n fun j => c.testBit j)) == k) from fun _ => rfl)
      have HKL := Lib.hid (fun c : Nat => kc_le n k c)
      have HK0 := Lib.hid (show kc n k 0 = 0 from rfl)
      clear hM hoff hn hk
      go_enter Try.func6, Try.ntmps6
      go_wp2_with fail
      refine (HW.out _).mono ?_
      rintro e w2 ⟨rfl, rfl⟩
      go_wp2_with fail
      refine (HW2.out _).mono ?_
      rintro e w2 ⟨rfl, rfl⟩
      go_wp2
      go_loopw [5, 6] (fun v i wr => ∃ c : Nat, c ≤ M ∧ i = .int .i64 (c : Int) ∧ v = .int .i64 ((kc n k c : Nat) : Int) ∧ Below w.heap.size w wr) (fun _ i _ => M - (intOf i).toNat)
      case atStart => exact ⟨0, Nat.zero_le _, rfl, by rw [HK0.out]; rfl, Below.refl _ _⟩
      case round =>
        obtain ⟨c, hc, rfl, rfl, hb⟩ := hrel
        by_cases hlt : c < M
        · have hcl := HKL.out c
          have HST := Lib.hid (HKC.out c)
          have HKS := Lib.hid (HKI.out c)
          have HV := Lib.hid (HVO.out c)
          have hVl := Lib.hid (HVL.out c)
          have HO := Lib.hid (fun W' => HOF.out W' c (by omega))
          clear HKC HKI HVO HVL HKL HOF
          generalize gameV n (fun j => c.testBit j) = V at *
          go_wp2_with fail
          refine (HO.out _).mono ?_
          rintro e w2 ⟨A, d, rfl, ho, hb2⟩
          have HK := Lib.hid (l07Kings_any A d V w2 HV.out (ho.row.mono (Nat.le_refl _)))
          rw [casts_length]
          have hkl := kings_lt V HV.out
          rw [hVl.out] at HK
          rw [hVl.out]
          go_wp2_with fail
          refine HK.out.mono ?_
          rintro e w3 ⟨rfl, hb3⟩
          have HB := Lib.hid (fun W' => (by have := l02Bits_any ((kingsN V : Nat) : Int) W' (by omega) (by omega); rwa [Int.toNat_natCast] at this :
            Calls Try.prog 30 #[.int .i64 ((kingsN V : Nat) : Int)] W' fun e w' => e = .returned (.int .i64 (pc 8 (kingsN V) : Nat)) ∧ W' = w'))
          go_wp2_with fail
          refine (HB.out _).mono ?_
          rintro e w4 ⟨rfl, rfl⟩
          have hbb : Below w.heap.size w w3 := below_trans (below_trans hb hb2) hb3
          cases hx : kingsIs n k c with
          | true =>
            have hy : ((pc 8 (kingsN V) : Nat) : Int) = (k : Int) := by
              have := HKS.out
              rw [hx] at this
              have := beq_iff_eq.1 this.symm
              omega
            have hst : Hid (kc n k (c + 1) = kc n k c + 1) := Lib.hid (by rw [HST.out, hx]; rfl)
            clear hx
            generalize pc 8 (kingsN V) = pk at *
            go_wp2
            go_roundw
            case rel => exact ⟨c + 1, by omega, by go_num, by rw [hst.out]; go_num, hbb⟩
            case measure => simp [intOf]; omega
          | false =>
            have hy : (((pc 8 (kingsN V) : Nat) : Int) == (k : Int)) = false := by
              have := HKS.out
              rw [hx] at this
              have h3 : ¬ pc 8 (kingsN V) = k := by simpa using this.symm
              rw [beq_eq_false_iff_ne]
              omega
            have hst : Hid (kc n k (c + 1) = kc n k c) := Lib.hid (by rw [HST.out, hx]; simp)
            clear hx
            generalize pc 8 (kingsN V) = pk at *
            go_wp2
            go_roundw
            case rel => exact ⟨c + 1, by omega, by go_num, by rw [hst.out], hbb⟩
            case measure => simp [intOf]; omega
        · obtain rfl : c = M := by omega
          go_wp2
          go_ret
          exact ⟨ret_int HR.out.symm, hb⟩
    · have HR : Hid (rCountKings n k = -1) := Lib.hid (by unfold rCountKings; rw [if_neg (fun h => hk h.2)])
      have HW2 := Lib.hid (fun W' => sIn_no k 0 n W' (by omega))
      clear hn hk
      go_enter Try.func6, Try.ntmps6
      go_wp2_with fail
      refine (HW.out _).mono ?_
      rintro e w2 ⟨rfl, rfl⟩
      go_wp2_with fail
      refine (HW2.out _).mono ?_
      rintro e w2 ⟨rfl, rfl⟩
      go_wp2
      go_ret
      exact ⟨ret_int HR.out.symm, Below.refl _ _⟩
  · have HR : Hid (rCountKings n k = -1) := Lib.hid (by unfold rCountKings; rw [if_neg (fun h => hn h.1)])
    have HW := Lib.hid (fun W' => sIn_no n 1 5 W' (by omega))
    clear hn
    go_enter Try.func6, Try.ntmps6
    go_wp2_with fail
    refine (HW.out _).mono ?_
    rintro e w2 ⟨rfl, rfl⟩
    go_wp2
    go_ret
    exact ⟨ret_int HR.out.symm, Below.refl _ _⟩
end Go.Proofs.Ytaocjjocncoahaa
