/- The cursor that draws numbers from a row of bytes. -/
import Derived.Test.YtaocjjocncoahaaMem
import Derived.Test.YtaocjjocncoahaaRows
import Derived.Test.YtaocjjocncoahaaMg10
import Derived.RegionTactic
import Derived.Deep.QuietTactic
import Derived.BigQuiet
import Derived.Outline
import Derived.Handy
import Derived.Deep.RegionHeld3
import Derived.WalkLawsBesides
import Derived.WalkSpells
namespace Go.Proofs.Ytaocjjocncoahaa
open Go.RowKit

def u8s (zs : List Int) : List Value := zs.map (Value.int .u8)
theorem u8s_length (zs : List Int) : (u8s zs).length = zs.length := by simp [u8s]
theorem Row.u8 {w : World} {B : Nat} {A : Option Addr} {zs : List Int} (h : Row w B A (u8s zs)) {k : Nat} (hk : k < zs.length) :
    ∃ b off, A = some ⟨b, off, none⟩ ∧ b < B ∧ w.cell? ⟨b, off + k, none⟩ = some (.int .u8 zs[k]) := by
  obtain ⟨b, off, e, hb, hc⟩ := h.at_ (k := k) (by rw [u8s_length]; exact hk)
  exact ⟨b, off, e, hb, by rw [hc]; simp [u8s]⟩
theorem and_255 (a : Int) : ∃ x : Nat, x ≤ 255 ∧ bits .and .i64 a 255 = (x : Int) := by
  refine ⟨(BitVec.ofInt 64 a).toNat &&& 255, Nat.and_le_right, ?_⟩
  show IntKind.i64.wrap ((BitVec.ofInt 64 a &&& BitVec.ofInt 64 255).toNat : Int) = _
  rw [BitVec.toNat_and, show (BitVec.ofInt 64 255).toNat = 255 by decide, wrap_nat _ (Nat.lt_of_le_of_lt Nat.and_le_right (by decide))]
/-- A cursor over a row of n bytes stands in block b. -/
def Cur (w : World) (b : Nat) (A : Option Addr) (n c : Nat) : Prop :=
  ∃ (i : Nat) (h : Int), i ≤ n ∧ w.cell? ⟨b, 0, none⟩ = some (.slice A n c) ∧ w.cell? ⟨b, 1, none⟩ = some (.int .i64 (i : Int)) ∧ w.cell? ⟨b, 2, none⟩ = some (.int .i64 h) ∧ w.frozen? ⟨b, 1, none⟩ = false ∧ w.frozen? ⟨b, 2, none⟩ = false
theorem Cur.below {w w' : World} {b B : Nat} {A : Option Addr} {n c : Nat} (h : Cur w b A n c) (hb : Below B w w') (hB : b < B) : Cur w' b A n c := by
  obtain ⟨i, x, h1, h2, h3, h4, h5, h6⟩ := h
  have e : w'.heap[b]? = w.heap[b]? := hb.block b hB
  refine ⟨i, x, h1, ?_, ?_, ?_, ?_, ?_⟩
  · exact (hb.cell (p := ⟨b, 0, none⟩) hB).trans h2
  · exact (hb.cell (p := ⟨b, 1, none⟩) hB).trans h3
  · exact (hb.cell (p := ⟨b, 2, none⟩) hB).trans h4
  · unfold World.frozen? at h5 ⊢; simpa [e] using h5
  · unfold World.frozen? at h6 ⊢; simpa [e] using h6
set_option maxRecDepth 20000 in
theorem l01New_any (A : Option Addr) (c : Nat) (zs : List Int) (w : World) (h : Row w w.heap.size A (u8s zs)) (hl : zs.length ≤ 1048576) :
    Calls Try.prog 79 #[.slice A zs.length c] w fun e w' => e = .returned (.pointer (some ⟨w.heap.size, 0, none⟩)) ∧ Cur w' w.heap.size A zs.length c ∧ Below w.heap.size w w' ∧ w.heap.size < w'.heap.size := by
  go_enter Try.func79, Try.ntmps79
  go_wp2
  go_loopw [3, 4] (fun v i wr => ∃ (k : Nat) (x : Int), k ≤ zs.length ∧ k ≤ 4000 ∧ i = .int .i64 (k : Int) ∧ v = .int .i64 x ∧ Below w.heap.size w wr ∧ w.heap.size = wr.heap.size) (fun _ i _ => zs.length - (intOf i).toNat)
  case atStart => exact ⟨0, _, Nat.zero_le _, by omega, rfl, rfl, Below.refl _ _, rfl⟩
  case round =>
    obtain ⟨k, x, hk, hk4, rfl, rfl, hb, hsz⟩ := hrel
    by_cases hlt : k < zs.length
    · by_cases h4 : k < 4000
      · obtain ⟨b, off, rfl, hbB, hc⟩ := (h.below hb (Nat.le_refl _)).u8 hlt
        generalize zs[k] = z at *
        clear h
        go_wp2
        go_roundw
        case rel => exact ⟨k + 1, _, by omega, by omega, by go_num, rfl, hb, hsz⟩
        case measure => simp [intOf]; omega
      · clear h
        go_wp2
        go_ret
        refine ⟨by rw [hsz]; rfl, ⟨0, x, Nat.zero_le _, ?_, ?_, ?_, ?_, ?_⟩, hb.alloc hb.size _, ?_⟩
        all_goals (rw [hsz]; first | (go_simp; done) | (simp; done) | omega)
    · obtain rfl : k = zs.length := by omega
      clear h
      go_wp2
      go_ret
      refine ⟨by rw [hsz]; rfl, ⟨0, x, Nat.zero_le _, ?_, ?_, ?_, ?_, ?_⟩, hb.alloc hb.size _, ?_⟩
      all_goals (rw [hsz]; first | (go_simp; done) | (simp; done) | omega)
/-- The cursor with its place and its number. -/
def CurI (w : World) (b : Nat) (A : Option Addr) (n c i : Nat) (h : Int) : Prop :=
  w.cell? ⟨b, 0, none⟩ = some (.slice A n c) ∧ w.cell? ⟨b, 1, none⟩ = some (.int .i64 (i : Int)) ∧ w.cell? ⟨b, 2, none⟩ = some (.int .i64 h) ∧ w.frozen? ⟨b, 1, none⟩ = false ∧ w.frozen? ⟨b, 2, none⟩ = false
theorem CurI.set2 {w : World} {b n c i : Nat} {A : Option Addr} {h : Int} (k : CurI w b A n c i h) (h' : Int) : CurI (w.setCell ⟨b, 2, none⟩ (.int .i64 h')) b A n c i h' := by
  obtain ⟨k0, k1, k2, f1, f2⟩ := k
  refine ⟨?_, ?_, ?_, ?_, ?_⟩ <;> first | (go_simp; done) | (simp [*]; done)
theorem CurI.set1 {w : World} {b n c i : Nat} {A : Option Addr} {h : Int} (k : CurI w b A n c i h) (i' : Nat) : CurI (w.setCell ⟨b, 1, none⟩ (.int .i64 (i' : Int))) b A n c i' h := by
  obtain ⟨k0, k1, k2, f1, f2⟩ := k
  refine ⟨?_, ?_, ?_, ?_, ?_⟩ <;> first | (go_simp; done) | (simp [*]; done)
theorem CurI.drewN {w : World} {b n c i : Nat} {A : Option Addr} {h : Int} (k : CurI w b A n c i h) (m : Nat) : CurI (w.drewN m) b A n c i h := k
theorem CurI.cur {w : World} {b n c i : Nat} {A : Option Addr} {h : Int} (k : CurI w b A n c i h) (hi : i ≤ n) : Cur w b A n c := by
  obtain ⟨k0, k1, k2, f1, f2⟩ := k
  exact ⟨i, h, hi, k0, k1, k2, f1, f2⟩
set_option maxRecDepth 20000 in
theorem l01Byte_any (b : Nat) (A : Option Addr) (c : Nat) (zs : List Int) (w : World) (h : Row w b A (u8s zs)) (hz : ∀ z ∈ zs, 0 ≤ z ∧ z ≤ 255) (hl : zs.length ≤ 1048576) (hq : Cur w b A zs.length c) :
    Calls Try.prog 57 #[.pointer (some ⟨b, 0, none⟩)] w fun e w' => ∃ x : Nat, x ≤ 255 ∧ e = .returned (.int .i64 (x : Int)) ∧ Cur w' b A zs.length c ∧ Only b (b + 1) w w' := by
  obtain ⟨i, hv, hi, k0, k1, k2, f1, f2⟩ := hq
  have HQ : Hid (CurI w b A zs.length c i hv) := Lib.hid ⟨k0, k1, k2, f1, f2⟩
  obtain ⟨m, E0⟩ : ∃ m, IntKind.i64.wrap (hv * 6364136223846793005) = m := ⟨_, rfl⟩
  obtain ⟨h1, E1⟩ : ∃ h1, IntKind.i64.wrap (m + 1442695040888963407) = h1 := ⟨_, rfl⟩
  obtain ⟨x, hx, E2⟩ := and_255 (bits .xor .i64 (h1 / 8589934592) (h1 / 35184372088832))
  by_cases hlt : i < zs.length
  · obtain ⟨bk, off, rfl, hbB, hc⟩ := h.u8 hlt
    obtain ⟨y, hy, hyz⟩ : ∃ y : Nat, y ≤ 255 ∧ zs[i] = (y : Int) := ⟨zs[i].toNat, by have := hz _ (List.getElem_mem hlt); omega, by have := hz _ (List.getElem_mem hlt); omega⟩
    rw [hyz] at hc
    obtain ⟨x', hx', E3⟩ := and_255 ((x : Int) + (y : Int))
    have hne : bk ≠ b := by omega
    have hne' : b ≠ bk := by omega
    clear h hz hyz
    go_enter Try.func57, Try.ntmps57
    go_wp2
    go_quiet (fail)
    go_wp2
    go_quiet (fail)
    go_wp2
    go_quiet (fail)
    go_wp2
    go_ret
    exact ⟨x', hx', rfl, ((HQ.out.set2 h1).set1 (i + 1)).cur (by omega), (((Only.refl b (b + 1) w).setCell (p := ⟨b, 2, none⟩) (Nat.le_refl _) (Nat.lt_succ_self _) _).drewN _).setCell (p := ⟨b, 1, none⟩) (Nat.le_refl _) (Nat.lt_succ_self _) _⟩
  · have e : i = zs.length := by omega
    clear h hz
    go_enter Try.func57, Try.ntmps57
    go_wp2
    go_quiet (fail)
    go_wp2
    go_quiet (fail)
    go_wp2
    go_ret
    exact ⟨x, hx, rfl, (HQ.out.set2 h1).cur (by omega), (((Only.refl b (b + 1) w).setCell (p := ⟨b, 2, none⟩) (Nat.le_refl _) (Nat.lt_succ_self _) _).drewN _).drewN _⟩
set_option maxRecDepth 20000 in
theorem l01Below_any (b : Nat) (A : Option Addr) (c : Nat) (zs : List Int) (k : Nat) (w : World) (h : Row w b A (u8s zs)) (hz : ∀ z ∈ zs, 0 ≤ z ∧ z ≤ 255) (hl : zs.length ≤ 1048576) (hq : Cur w b A zs.length c) (hk0 : 0 < k) (hk : k ≤ 256) :
    Calls Try.prog 77 #[.pointer (some ⟨b, 0, none⟩), .int .i64 (k : Int)] w fun e w' => ∃ x : Nat, x < k ∧ e = .returned (.int .i64 (x : Int)) ∧ Cur w' b A zs.length c ∧ Only b (b + 1) w w' := by
  have HC := Lib.hid (l01Byte_any b A c zs w h hz hl hq)
  clear h hz hq
  go_enter Try.func77, Try.ntmps77
  go_wp2_with fail
  refine HC.out.mono ?_
  rintro e w1 ⟨x, hx, rfl, hq1, ho1⟩
  have em : Int.tmod (x : Int) (k : Int) = ((x % k : Nat) : Int) := rfl
  have em2 : (x : Int) % (k : Int) = ((x % k : Nat) : Int) := by omega
  have hm : x % k < k := Nat.mod_lt _ hk0
  generalize x % k = r at *
  go_wp2
  go_ret
  exact ⟨r, hm, rfl, hq1, ho1⟩
set_option maxRecDepth 20000 in
theorem l32New_one (A : Option Addr) (c : Nat) (zs : List Int) (w : World) (h : Row w w.heap.size A (u8s zs)) (hz : ∀ z ∈ zs, 0 ≤ z ∧ z ≤ 255) (hl : zs.length ≤ 1048576) :
    Calls Try.prog 49 #[.slice A zs.length c, .int .i64 1] w fun e w' => e = .returned (.pointer (some ⟨w.heap.size, 0, none⟩)) ∧ Cur w' w.heap.size A zs.length c ∧ Below w.heap.size w w' ∧ w.heap.size < w'.heap.size := by
  have HC := Lib.hid (l01New_any A c zs w h hl)
  go_enter Try.func49, Try.ntmps49
  go_wp2_with fail
  refine HC.out.mono ?_
  rintro e w1 ⟨rfl, hq1, hb1, hs1⟩
  have h1 : Row w1 w.heap.size A (u8s zs) := h.below hb1 (Nat.le_refl _)
  have HB := Lib.hid (l01Byte_any w.heap.size A c zs w1 h1 hz hl hq1)
  go_wp2
  go_loopw [6] (fun i wr => (i = .int .i64 0 ∧ wr = w1) ∨ (i = .int .i64 1 ∧ Cur wr w.heap.size A zs.length c ∧ Below w.heap.size w wr ∧ w.heap.size < wr.heap.size)) (fun i _ => 1 - (intOf i).toNat)
  case atStart => exact .inl ⟨rfl, rfl⟩
  case round =>
    rcases hrel with ⟨rfl, rfl⟩ | ⟨rfl, hq, hb, hs⟩
    · go_wp2_with fail
      refine HB.out.mono ?_
      rintro e w2 ⟨x, hx, rfl, hq2, ho2⟩
      go_wp2
      go_roundw
      case rel => exact .inr ⟨rfl, hq2, hb1.trans (ho2.below (Nat.le_refl _) (by omega)), by have := ho2.size; omega⟩
      case measure => simp [intOf]
    · go_wp2
      go_ret
      exact ⟨rfl, hq, hb, hs⟩
set_option maxRecDepth 20000 in
theorem makeNum_one (A : Option Addr) (c : Nat) (zs : List Int) (w : World) (h : Row w w.heap.size A (u8s zs)) (hz : ∀ z ∈ zs, 0 ≤ z ∧ z ≤ 255) (hl : zs.length ≤ 1048576) :
    Calls Try.prog 24 #[.slice A zs.length c, .int .i64 1] w fun e w' => ∃ x : Nat, x ≤ 65535 ∧ e = .returned (.int .i64 (x : Int)) ∧ Below w.heap.size w w' := by
  have HC := Lib.hid (l32New_one A c zs w h hz hl)
  go_enter Try.func24, Try.ntmps24
  go_wp2_with fail
  refine HC.out.mono ?_
  rintro e w1 ⟨rfl, hq1, hb1, hs1⟩
  have h1 : Row w1 w.heap.size A (u8s zs) := h.below hb1 (Nat.le_refl _)
  have HB := Lib.hid (l01Byte_any w.heap.size A c zs w1 h1 hz hl hq1)
  go_wp2_with fail
  refine HB.out.mono ?_
  rintro e w2 ⟨x, hx, rfl, hq2, ho2⟩
  have h2 : Row w2 w.heap.size A (u8s zs) := h1.rowOnly ho2 (Nat.le_refl _) (by omega)
  have HB2 := Lib.hid (l01Byte_any w.heap.size A c zs w2 h2 hz hl hq2)
  go_wp2_with fail
  refine HB2.out.mono ?_
  rintro e w3 ⟨y, hy, rfl, hq3, ho3⟩
  go_wp2
  go_ret
  exact ⟨x * 256 + y, by omega, by first | rfl | (congr 2; omega) | go_num, hb1.trans ((ho2.trans ho3).below (Nat.le_refl _) (by omega))⟩
end Go.Proofs.Ytaocjjocncoahaa
