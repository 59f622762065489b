/- MakeText, walked; and: a text split at its blanks and joined by blanks is the text. -/
import Derived.Test.YtliimojaoegdhaaDoorCur
import Derived.Test.YtliimojaoegdhaaDoorLinesP
import Derived.Test.YtliimojaoegdhaaDoorNamesD
namespace Go.Proofs.YtliimojaoegdhaaDoor
open Go.RowKit

def jn (d : UInt8) : List (List UInt8) → List UInt8
  | [] => []
  | [x] => x
  | x :: y :: r => x ++ d :: jn d (y :: r)
theorem jn_cons (d : UInt8) (x : List UInt8) {l : List (List UInt8)} (h : l ≠ []) : jn d (x :: l) = x ++ d :: jn d l := by
  cases l with
  | nil => exact absurd rfl h
  | cons y r => rfl
theorem jn_pre (d : UInt8) (p : List UInt8) (l : List (List UInt8)) (h : l ≠ []) : jn d (pre p l) = p ++ jn d l := by
  cases l with
  | nil => exact absurd rfl h
  | cons x r =>
    cases r with
    | nil => rfl
    | cons y r => show (p ++ x) ++ d :: jn d (y :: r) = p ++ (x ++ d :: jn d (y :: r)); rw [List.append_assoc]
theorem jn_sp (d : UInt8) (l : List UInt8) : jn d (sp d l) = l := by
  induction l with
  | nil => rfl
  | cons c r ih =>
    rw [sp]
    split
    · rename_i h
      rw [jn_cons d [] (sp_ne d r), ih, h]; rfl
    · rw [jn_pre d [c] _ (sp_ne d r), ih]; rfl
theorem lib_join_jn (d : UInt8) (l : List (List UInt8)) : Lib.join l [d] = jn d l := by
  induction l with
  | nil => rfl
  | cons x r ih =>
    cases r with
    | nil => simp [Lib.join_cons, Lib.joinTail, jn]
    | cons y r =>
      rw [jn_cons d x (by simp), ← ih, Lib.join_cons, Lib.join_cons]
      simp [Lib.joinTail]
theorem join_split (s b : ByteArray) (d : UInt8) (hb : b.data.toList = [d]) : joinL (rSplitAny s b) b = s := by
  refine data_inj ?_
  unfold joinL
  rw [hb, rSplitAny_sp s b d hb, lib_join_jn, jn_sp]
def bits5 : List ByteArray := [⟨#[97]⟩, ⟨#[98, 99]⟩, ⟨#[32]⟩, ⟨#[44]⟩, ⟨#[120, 49]⟩]
theorem bits5_size (k : Nat) : (bits5[k]?.getD ⟨#[]⟩).size ≤ 2 := by
  unfold bits5
  match k with
  | 0 => decide
  | 1 => decide
  | 2 => decide
  | 3 => decide
  | 4 => decide
  | k + 5 => simp; decide
set_option maxRecDepth 20000 in
theorem makeText_any (A : Option Addr) (c : Nat) (zs : List Int) (w : World) (h : Row w w.heap.size A (u8s zs)) (hz : ∀ z ∈ zs, 0 ≤ z ∧ z ≤ 255) (hl : zs.length ≤ 1048576) :
    Calls Tryd.prog 28 #[.slice A zs.length c] w fun e w' => ∃ s : ByteArray, s.size ≤ 1000 ∧ e = .returned (.string s) ∧ Below w.heap.size w w' := by
  have HC := Lib.hid (l01New_any A c zs w h hl)
  go_enter Tryd.func28, Tryd.ntmps28
  go_wp2_with fail
  refine HC.out.mono ?_
  rintro e w1 ⟨rfl, hq1, hb1, hs1⟩
  have h1 : Row w1 w.heap.size A (u8s zs) := h.below hb1 (Nat.le_refl _)
  have HB := Lib.hid (l01Below_any w.heap.size A c zs 8 w1 h1 hz hl hq1 (by decide) (by decide))
  go_wp2_with fail
  refine HB.out.mono ?_
  rintro e w2 ⟨n, hn, rfl, hq2, ho2⟩
  have h2 : Row w2 w.heap.size A (u8s zs) := h1.rowOnly ho2 (Nat.le_refl _) (by omega)
  have hb2 : Below w.heap.size w w2 := hb1.trans (ho2.below (Nat.le_refl _) (by omega))
  have hs2 : w.heap.size < w2.heap.size := by have := ho2.size; omega
  clear HB HC
  go_wp2
  go_loopw [4, 5] (fun v i wr => ∃ (k : Nat) (s : ByteArray), k ≤ 7 ∧ i = .int .i64 (k : Int) ∧ v = .string s ∧ s.size + 2 * k ≤ 14 ∧ Row wr w.heap.size A (u8s zs) ∧ Cur wr w.heap.size A zs.length c ∧ Below w.heap.size w wr ∧ w.heap.size < wr.heap.size) (fun _ i _ => (intOf i).toNat)
  case atStart => exact ⟨n, ⟨#[]⟩, by omega, rfl, rfl, by show 0 + 2 * n ≤ 14; omega, h2, hq2, hb2, hs2⟩
  case round =>
    clear h1 h2 hq1 hq2 hb1 hb2 hs1 hs2 ho2
    obtain ⟨k, s, hk, rfl, rfl, hss, hr, hq, hb, hs⟩ := hrel
    by_cases hk0 : 0 < k
    · obtain ⟨W5, hW5⟩ : ∃ W5, W5 = wr.alloc (.cells #[.string ⟨#[97]⟩, .string ⟨#[98, 99]⟩, .string ⟨#[32]⟩, .string ⟨#[44]⟩, .string ⟨#[120, 49]⟩] 9) := ⟨_, rfl⟩
      have hbW : Below wr.heap.size wr W5 := by rw [hW5]; exact (Below.refl _ _).alloc (Nat.le_refl _) _
      have hcs : ∀ j, j < bits5.length → W5.cell? ⟨wr.heap.size, j, none⟩ = some (.string (bits5[j]?.getD ⟨#[]⟩)) := by
        intro j hj
        rw [hW5]
        have hj5 : j < 5 := hj
        match j, hj5 with
        | 0, _ => go_simp <;> rfl
        | 1, _ => go_simp <;> rfl
        | 2, _ => go_simp <;> rfl
        | 3, _ => go_simp <;> rfl
        | 4, _ => go_simp <;> rfl
      have hsW : wr.heap.size < W5.heap.size := by rw [hW5]; simp
      have HS := Lib.hid (l01Str_any w.heap.size A c zs wr.heap.size bits5 W5 (hr.below hbW (by omega)) hz hl (hq.below hbW hs) hcs hs hsW (by decide) (by decide))
      obtain ⟨k, rfl⟩ : ∃ k', k = k' + 1 := ⟨k - 1, by omega⟩
      go_wp2_with fail
      rw [← hW5]
      refine HS.out.mono ?_
      rintro e w6 ⟨j, hj, rfl, hq6, ho6⟩
      have hzs := bits5_size j
      generalize bits5[j]?.getD ⟨#[]⟩ = z at *
      have hadd := fun (W' : World) => run_string_add_sum (P := Tryd.prog) W' s z (by omega)
      have hr6 : Row w6 w.heap.size A (u8s zs) := (hr.below hbW (by omega)).rowOnly ho6 (Nat.le_refl _) (by omega)
      have hb6 : Below w.heap.size w w6 := hb.trans ((hbW.mono (by omega)).trans (ho6.below (Nat.le_refl _) (by omega)))
      have hs6 : w.heap.size < w6.heap.size := by have := ho6.size; omega
      have hsa : (s ++ z).size = s.size + z.size := ByteArray.size_append
      clear HS hcs
      go_wp2
      go_roundw
      case rel => exact ⟨k, s ++ z, by omega, by go_num, rfl, by omega, hr6, hq6, hb6, hs6⟩
      case measure => simp [intOf]
    · obtain rfl : k = 0 := by omega
      clear hr
      go_wp2
      go_ret
      exact ⟨s, by omega, rfl, hb⟩
end Go.Proofs.YtliimojaoegdhaaDoor
