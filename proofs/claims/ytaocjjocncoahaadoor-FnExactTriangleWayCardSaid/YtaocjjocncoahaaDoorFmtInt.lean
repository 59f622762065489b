/- FormatInt, walked on both sides. -/
import Derived.Test.YtaocjjocncoahaaDoorStrs
import Derived.Lib.ItoaNum
import Derived.Deep.RegionWith
namespace Go.Proofs.YtaocjjocncoahaaDoor
open Go.RowKit

theorem dec_big (u : Nat) (h : 10 ≤ u) : Lib.decDigits u = Lib.decDigits (u / 10) ++ [UInt8.ofNat (48 + u % 10)] := by
  rw [Lib.decDigits, dif_neg (by omega)]
theorem dec_len : ∀ (f u : Nat), u < 10 ^ (f + 1) → (Lib.decDigits u).length ≤ f + 1
  | 0, u, h => by rw [Lib.decDigits_one (by simpa using h)]; simp
  | f + 1, u, h => by
    by_cases h1 : u < 10
    · rw [Lib.decDigits_one h1]; simp
    · rw [dec_big u (by omega), List.length_append, List.length_singleton]
      rw [Nat.pow_succ] at h
      have := dec_len f (u / 10) (by omega)
      omega
theorem dec_len20 (u : Nat) (h : u ≤ 9223372036854775808) : (Lib.decDigits u).length ≤ 20 := dec_len 19 u (Nat.lt_of_le_of_lt h (by decide))
theorem u8_wrap (m : Nat) (h : m < 10) : IntKind.u8.wrap (48 + (m : Int)) = 48 + (m : Int) := by
  have : ∀ m, m < 10 → IntKind.u8.wrap (48 + ((m : Nat) : Int)) = 48 + (m : Int) := by decide +kernel
  exact this m h
theorem bytes_backW (W : World) (b : Nat) (m : Nat) (h : m < 10) (hc : W.cell? ⟨b, 0, none⟩ = some (.int .u8 (48 + (m : Int)))) : (convert 68 9 (.slice (some ⟨b, 0, none⟩) 1 1)).run Tryd.prog W = .ok (.string ⟨[UInt8.ofNat (48 + m)].toArray⟩) W := by
  refine run_convert_bytes_back _ _ _ _ ⟨b, 0, none⟩ 1 [UInt8.ofNat (48 + m)] Tryd.underlying68 Tryd.underlying5 Tryd.underlying9 ?_
  intro j hj
  have : j = 0 := by simpa using hj
  subst this
  rw [List.getElem_cons_zero, u8_nat m h]
  exact hc
theorem cell_u8 (w : World) (v : Int) : (w.alloc (.cells #[.int .u8 v] 5)).drew.cell? ⟨w.heap.size, 0, none⟩ = some (.int .u8 v) := by show (w.alloc _).cell? _ = _; go_simp
theorem lt_u8 (w : World) (v : Int) : w.heap.size < (w.alloc (.cells #[.int .u8 v] 5)).drew.heap.size := by simp
set_option maxRecDepth 20000 in
theorem sFormat_nat (k : Nat) (w : World) (h2 : k ≤ 9223372036854775807) :
    Calls Tryd.prog 41 #[.int .i64 (k : Int)] w fun e w' => e = .returned (.string ⟨(Lib.decDigits k).toArray⟩) ∧ Below w.heap.size w w' := by
  have h0 : ¬ (k : Int) < 0 := by omega
  have H2 := Lib.hid h2
  clear h2
  go_enter Tryd.func41, Tryd.ntmps41
  go_wp2
  go_loopw [0, 3] (fun n v wr => ∃ (f q : Nat) (o : List UInt8), n = .int .i64 (q : Int) ∧ v = .string ⟨o.toArray⟩ ∧ Hid (Lib.decDigits k = Lib.decDigits q ++ o) ∧ Hid (q ≤ 9223372036854775807) ∧ Hid (q < 10 ^ f) ∧ o.length + f ≤ 20 ∧ Below w.heap.size w wr) (fun n _ _ => (intOf n).toNat)
  case atStart => exact ⟨20, k, [], rfl, rfl, Lib.hid (by simp), H2, Lib.hid (Nat.lt_of_le_of_lt H2.out (by decide)), by simp, Below.refl _ _⟩
  case round =>
    obtain ⟨f, q, o, rfl, rfl, HD, HQ, HF, hof, hb⟩ := hrel
    by_cases h9 : 9 < q
    · obtain ⟨f, rfl⟩ : ∃ f', f = f' + 1 := by
        cases f with
        | zero => have := HF.out; simp at this; omega
        | succ f => exact ⟨f, rfl⟩
      obtain ⟨m, hm⟩ : ∃ m, m = q % 10 := ⟨_, rfl⟩
      obtain ⟨r, hr⟩ : ∃ r, r = q / 10 := ⟨_, rfl⟩
      have hm10 : m < 10 := by omega
      have hrq : r < q := by omega
      have E1 : (q : Int) % 10 = (m : Int) := by omega
      have E2 : (q : Int) / 10 = (r : Int) := by omega
      have E3 := u8_wrap m hm10
      have E6 : IntKind.i64.wrap (r : Int) = (r : Int) := by have := HQ.out; rw [IntKind.wrap_i64]; omega
      have HQ2 : Hid (r ≤ 9223372036854775807) := Lib.hid (by have := HQ.out; omega)
      have HD2 : Hid (Lib.decDigits k = Lib.decDigits r ++ (UInt8.ofNat (48 + m) :: o)) := Lib.hid (by
        rw [HD.out, dec_big q (by omega), ← hm, ← hr]; simp)
      have HF2 : Hid (r < 10 ^ f) := Lib.hid (by
        have := HF.out
        rw [Nat.pow_succ] at this
        omega)
      have hcv := bytes_back wr m hm10
      have sz1 : (ByteArray.mk [UInt8.ofNat (48 + m)].toArray).size = 1 := rfl
      have sz2 : (ByteArray.mk o.toArray).size = o.length := mk_size o
      have HAP : Hid (ByteArray.mk [UInt8.ofNat (48 + m)].toArray ++ ByteArray.mk o.toArray = ByteArray.mk (UInt8.ofNat (48 + m) :: o).toArray) := Lib.hid (ByteArray.mk_append_mk _ _)
      have hadd := fun (W' : World) => run_string_add_sum (P := Tryd.prog) W' (ByteArray.mk [UInt8.ofNat (48 + m)].toArray) (ByteArray.mk o.toArray) (by rw [sz1, sz2]; omega)
      rw [HAP.out] at hadd
      clear hm hr sz1 sz2
      generalize UInt8.ofNat (48 + m) = d at *
      go_wp2
      go_roundw
      case rel => exact ⟨f, r, d :: o, rfl, rfl, HD2, HQ2, HF2, by rw [List.length_cons]; omega, hb.alloc hb.size _⟩
      case measure => simp [intOf]; omega
    · have hq10 : q < 10 := by omega
      have E3 := u8_wrap q hq10
      have hcv := bytes_back wr q hq10
      have sz1 : (ByteArray.mk [UInt8.ofNat (48 + q)].toArray).size = 1 := rfl
      have sz2 : (ByteArray.mk o.toArray).size = o.length := mk_size o
      have HAP : Hid (ByteArray.mk [UInt8.ofNat (48 + q)].toArray ++ ByteArray.mk o.toArray = ByteArray.mk (UInt8.ofNat (48 + q) :: o).toArray) := Lib.hid (ByteArray.mk_append_mk _ _)
      have hadd := fun (W' : World) => run_string_add_sum (P := Tryd.prog) W' (ByteArray.mk [UInt8.ofNat (48 + q)].toArray) (ByteArray.mk o.toArray) (by rw [sz1, sz2]; omega)
      rw [HAP.out] at hadd
      have HE : Hid ((⟨(Lib.decDigits k).toArray⟩ : ByteArray) = ⟨(UInt8.ofNat (48 + q) :: o).toArray⟩) := Lib.hid (by rw [HD.out, Lib.decDigits_one hq10]; rfl)
      clear sz1 sz2
      generalize UInt8.ofNat (48 + q) = d at *
      go_wp2
      go_ret
      exact ⟨ret_string HE.out.symm, hb.alloc hb.size _⟩
theorem below_undr {w w' : World} (h : Below w.drew.heap.size w.drew w') : Below w.heap.size w w' := ⟨h.os, h.tape, h.output, h.size, h.block⟩
theorem below_x1 {w wq : World} {v : Int} (h : Below w.drew.heap.size w.drew wq) : Below w.heap.size w (wq.alloc (.cells #[.int .u8 v] 5)) := (below_undr h).alloc h.size _
theorem below_x2 {w wq : World} {v : Int} (h : Below (w.alloc (.cells #[.int .u8 v] 5)).drew.heap.size (w.alloc (.cells #[.int .u8 v] 5)).drew wq) : Below w.heap.size w wq := ((Below.refl w.heap.size w).alloc (Nat.le_refl _) _).drew.trans (h.mono (by simp))
set_option maxRecDepth 20000 in
theorem sFormat_neg (m : Nat) : ∀ (n : Int) (w : World), n = -(m : Int) → 1 ≤ m → m ≤ 9223372036854775808 →
    Calls Tryd.prog 41 #[.int .i64 n] w fun e w' => e = .returned (.string ⟨((45 : UInt8) :: Lib.decDigits m).toArray⟩) ∧ Below w.heap.size w w' := by
  induction m using Nat.strongRecOn with
  | ind m ih =>
    intro n w hn h1 h2
    have hneg : n < 0 := by omega
    have hlo : -9223372036854775808 ≤ n := by omega
    by_cases hm : m < 10
    · have E0 : Int.tdiv n 10 = 0 := by
        rw [hn, Int.neg_tdiv, Int.tdiv_eq_zero_of_lt (by omega) (by omega)]; rfl
      have E4 : (48 : Int) - n = 48 + (m : Int) := by omega
      have E5 : IntKind.i64.wrap (48 - n) = 48 + (m : Int) := by rw [IntKind.wrap_i64]; omega
      have E3 := u8_wrap m hm
      have hcv := bytes_back w m hm
      have HAP : Hid (ByteArray.mk #[45] ++ ByteArray.mk [UInt8.ofNat (48 + m)].toArray = ByteArray.mk ((45 : UInt8) :: [UInt8.ofNat (48 + m)]).toArray) := Lib.hid (ByteArray.mk_append_mk [45] _)
      have hadd := fun (W' : World) => run_string_add_sum (P := Tryd.prog) W' (ByteArray.mk #[45]) (ByteArray.mk [UInt8.ofNat (48 + m)].toArray) (by show 1 + 1 ≤ _; omega)
      rw [HAP.out] at hadd
      have HE : Hid ((⟨((45 : UInt8) :: Lib.decDigits m).toArray⟩ : ByteArray) = ⟨((45 : UInt8) :: [UInt8.ofNat (48 + m)]).toArray⟩) := Lib.hid (by rw [Lib.decDigits_one hm])
      clear hn ih h2 hlo
      generalize UInt8.ofNat (48 + m) = d at *
      go_enter Tryd.func41, Tryd.ntmps41
      go_wp2
      go_ret
      exact ⟨ret_string HE.out.symm, (Below.refl _ _).alloc (Nat.le_refl _) _⟩
    · obtain ⟨q, hq⟩ : ∃ q, q = m / 10 := ⟨_, rfl⟩
      obtain ⟨r, hr⟩ : ∃ r, r = m % 10 := ⟨_, rfl⟩
      have hr10 : r < 10 := by omega
      obtain ⟨n2, hn2⟩ : ∃ n2 : Int, n2 = -(q : Int) := ⟨_, rfl⟩
      obtain ⟨n3, hn3⟩ : ∃ n3 : Int, n3 = -(r : Int) := ⟨_, rfl⟩
      have E0 : Int.tdiv n 10 = n2 := by
        rw [hn, Int.neg_tdiv, hn2, hq]
        congr 1
      have E1 : Int.tmod n 10 = n3 := by
        rw [hn, Int.neg_tmod, hn3, hr]
        congr 1
      have HC := Lib.hid (fun W' => ih q (by omega) n2 W' hn2 (by omega) (by omega))
      have E7 : IntKind.i64.wrap n2 = n2 := by rw [IntKind.wrap_i64]; omega
      have E8 : IntKind.i64.wrap n3 = n3 := by rw [IntKind.wrap_i64]; omega
      have e2 : (n2 == 0) = false := by rw [beq_eq_false_iff_ne]; omega
      have E4 : (48 : Int) - n3 = 48 + (r : Int) := by omega
      have E9 : IntKind.i64.wrap (48 + (r : Int)) = 48 + (r : Int) := by rw [IntKind.wrap_i64]; omega
      have E3 := u8_wrap r hr10
      have hl := dec_len20 q (by omega)
      have sz1 : (ByteArray.mk ((45 : UInt8) :: Lib.decDigits q).toArray).size = (Lib.decDigits q).length + 1 := by rw [mk_size, List.length_cons]
      have HAP : Hid (ByteArray.mk ((45 : UInt8) :: Lib.decDigits q).toArray ++ ByteArray.mk [UInt8.ofNat (48 + r)].toArray = ByteArray.mk ((45 : UInt8) :: Lib.decDigits m).toArray) := Lib.hid (by
        rw [ByteArray.mk_append_mk, dec_big m (by omega), hq, hr]; rfl)
      have hadd := fun (W' : World) => run_string_add_sum (P := Tryd.prog) W' (ByteArray.mk ((45 : UInt8) :: Lib.decDigits q).toArray) (ByteArray.mk [UInt8.ofNat (48 + r)].toArray) (by rw [sz1]; show _ + 1 ≤ _; omega)
      rw [HAP.out] at hadd
      have hcv := fun (W' : World) => bytes_back W' r hr10
      have hcd := fun (W' : World) => bytes_backW (W'.alloc (.cells #[.int .u8 (48 + (r : Int))] 5)).drew W'.heap.size r hr10 (by show (W'.alloc _).cell? _ = _; go_simp)
      have HBW := Lib.hid (fun (W' : World) (b : Nat) => bytes_backW W' b r hr10)
      clear hn ih hn2 hn3 hq hr sz1 h2 hlo
      generalize UInt8.ofNat (48 + r) = d at *
      generalize ByteArray.mk ((45 : UInt8) :: Lib.decDigits q).toArray = sq at *
      generalize ByteArray.mk ((45 : UInt8) :: Lib.decDigits m).toArray = sm at *
      go_enter Tryd.func41, Tryd.ntmps41
      go_wp2
      go_region_with ((go_at_call 41; refine (HC.out _).mono ?_; rintro e wq ⟨rfl, hbq⟩; (first | (have hcG := HBW.out wq w.heap.size ((hbq.cell (p := ⟨w.heap.size, 0, none⟩) (lt_u8 w (48 + (r : Int)))).trans (cell_u8 w (48 + (r : Int))))) | skip)))
      all_goals (go_wp2; go_ret; refine ⟨rfl, ?_⟩)
      all_goals first | exact below_x1 hbq | exact below_x2 hbq
end Go.Proofs.YtaocjjocncoahaaDoor
