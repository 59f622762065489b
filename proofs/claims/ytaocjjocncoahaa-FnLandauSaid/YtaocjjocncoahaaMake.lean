/- Drawing a tour from bytes: l02Draw, l05Draw, MakeTour, walked (printed by tools/make.py). -/
import Derived.Test.YtaocjjocncoahaaMg11
import Derived.Test.YtaocjjocncoahaaOf
import Derived.Test.YtaocjjocncoahaaFlip
import Derived.BigRegion
namespace Go.Proofs.Ytaocjjocncoahaa
open Go.RowKit

/-- A box of two cells that may be written. -/
def BoxAt (w : World) (q : Nat) (v0 v1 : Value) : Prop := w.cell? ⟨q, 0, none⟩ = some v0 ∧ w.cell? ⟨q, 1, none⟩ = some v1 ∧ w.frozen? ⟨q, 0, none⟩ = false ∧ w.frozen? ⟨q, 1, none⟩ = false
section
variable {w w' : World} {q b : Nat} {v0 v1 u0 u1 : Value}
theorem BoxAt.lt (h : BoxAt w q v0 v1) : q < w.heap.size := World.block_lt_of_cell? w _ h.1
theorem BoxAt.below (h : BoxAt w q v0 v1) (hb : Below w.heap.size w w') : BoxAt w' q v0 v1 :=
  ⟨(hb.cell (p := ⟨q, 0, none⟩) h.lt).trans h.1, (hb.cell (p := ⟨q, 1, none⟩) h.lt).trans h.2.1, (hb.frozen (p := ⟨q, 0, none⟩) h.lt).trans h.2.2.1, (hb.frozen (p := ⟨q, 1, none⟩) h.lt).trans h.2.2.2⟩
theorem BoxAt.but (h : BoxAt w q v0 v1) (hb : But3 b b b w w') (hq : q ≠ b) : BoxAt w' q v0 v1 :=
  ⟨(hb.cell (p := ⟨q, 0, none⟩) h.lt hq hq hq).trans h.1, (hb.cell (p := ⟨q, 1, none⟩) h.lt hq hq hq).trans h.2.1, (hb.frozen (p := ⟨q, 0, none⟩) h.lt hq hq hq).trans h.2.2.1, (hb.frozen (p := ⟨q, 1, none⟩) h.lt hq hq hq).trans h.2.2.2⟩
theorem BoxAt.made (w : World) (v0 v1 : Value) (t : TypeId) : BoxAt (w.alloc (.cells #[v0, v1] t)) w.heap.size v0 v1 := ⟨by go_simp, by go_simp, by go_simp, by go_simp⟩
theorem BoxAt.set (h : BoxAt w q v0 v1) (u0 u1 : Value) : BoxAt ((w.setCell ⟨q, 0, none⟩ u0).setCell ⟨q, 1, none⟩ u1) q u0 u1 :=
  ⟨by rw [World.cell?_setCell_other _ _ _ _ (by simp)]; exact World.cell?_setCell_same _ _ _ h.1, World.cell?_setCell_same _ _ _ ((World.cell?_setCell_other _ _ _ _ (by simp)).trans h.2.1), by rw [World.frozen?_setCell, World.frozen?_setCell]; exact h.2.2.1, by rw [World.frozen?_setCell, World.frozen?_setCell]; exact h.2.2.2⟩
theorem heap_set2 (w : World) (q g : Nat) (u0 u1 : Value) (h : g ≠ q) : ((w.setCell ⟨q, 0, none⟩ u0).setCell ⟨q, 1, none⟩ u1).heap[g]? = w.heap[g]? :=
  (Below.heap_setCell _ _ _ g (by show g ≠ q; omega)).trans (Below.heap_setCell _ _ _ g (by show g ≠ q; omega))
theorem BoxAt.keep (h : BoxAt w q v0 v1) (hk : w'.heap[q]? = w.heap[q]?) : BoxAt w' q v0 v1 := by
  obtain ⟨a, b, c, d⟩ := h
  refine ⟨?_, ?_, ?_, ?_⟩
  · exact (World.cell?_of_block hk).trans a
  · exact (World.cell?_of_block hk).trans b
  · exact (World.frozen?_of_block hk).trans c
  · exact (World.frozen?_of_block hk).trans d
end
/-- A tour drawn; the cursor's block has turned. -/
def Drawn (w : World) (b : Nat) (A : Option Addr) (c : Nat) (zs : List Int) (most : Nat) (e : Ending) (w' : World) : Prop :=
  ∃ (V : List Nat) (G : Option Addr) (d : Nat), IsT V ∧ V.length ≤ most ∧ e = .returned (.agg #[.int .i64 (V.length : Int), .slice G V.length d]) ∧ Own w' w.heap.size w'.heap.size 3 G d (ints (casts V)) ∧ Byt w' b A c zs ∧ But3 b b b w w'
theorem gameV_len (n : Nat) (g : Nat → Bool) : (gameV n g).length = n := by unfold gameV; rw [rowsOf_length]
set_option maxRecDepth 20000 in
set_option maxHeartbeats 1600000 in
theorem l02Draw_any (b : Nat) (A : Option Addr) (c : Nat) (zs : List Int) (most : Nat) (w : World) (h : Byt w b A c zs) (hz : ∀ z ∈ zs, 0 ≤ z ∧ z ≤ 255) (hl : zs.length ≤ 1048576) (h1 : 1 ≤ most) (h8 : most ≤ 8) :
    Calls Try.prog 73 #[.pointer (some ⟨b, 0, none⟩), .int .i64 (most : Int)] w (Drawn w b A c zs most) := by
  have HB := Lib.hid (fun k W (hy : Byt W b A c zs) (h0 : 0 < k) (h1 : k ≤ 256) => below_byt b A c zs k W hy hz hl h0 h1)
  have HB256 := Lib.hid (fun W (hy : Byt W b A c zs) => (HB.out 256 W hy (by omega) (by omega) : Calls Try.prog 77 #[.pointer (some ⟨b, 0, none⟩), .int .i64 256] W fun e w' => ∃ x : Nat, x < 256 ∧ e = .returned (.int .i64 (x : Int)) ∧ Byt w' b A c zs ∧ Only b (b + 1) W w'))
  have HB16 := Lib.hid (fun W (hy : Byt W b A c zs) => (HB.out 16 W hy (by omega) (by omega) : Calls Try.prog 77 #[.pointer (some ⟨b, 0, none⟩), .int .i64 16] W fun e w' => ∃ x : Nat, x < 16 ∧ e = .returned (.int .i64 (x : Int)) ∧ Byt w' b A c zs ∧ Only b (b + 1) W w'))
  have HOF := Lib.hid (fun (x y1 y2 y3 y4 : Nat) (hx : x < most) (g1 : y1 < 256) (g2 : y2 < 256) (g3 : y3 < 256) (g4 : y4 < 16) W => (by
    have := sOf_any (1 + x) (y1 * 65536 + y2 * 256 + y3 + y4 * 16777216) W (by omega) (by omega) (by omega)
    rw [show ((1 + x : Nat) : Int) = 1 + (x : Int) by omega, show ((y1 * 65536 + y2 * 256 + y3 + y4 * 16777216 : Nat) : Int) = (y1 : Int) * 65536 + (y2 : Int) * 256 + (y3 : Int) + (y4 : Int) * 16777216 by omega] at this
    exact this : Calls Try.prog 32 #[.int .i64 (1 + (x : Int)), .int .i64 ((y1 : Int) * 65536 + (y2 : Int) * 256 + (y3 : Int) + (y4 : Int) * 16777216)] W (NewTour W (1 + (x : Int)) (casts (gameV (1 + x) fun k => (y1 * 65536 + y2 * 256 + y3 + y4 * 16777216).testBit k)))))
  have hbz := h.2.2
  obtain ⟨w1, hw1⟩ : ∃ w1, w1 = w.alloc (.cells #[.int .i64 0, .slice none 0 0] 26) := ⟨_, rfl⟩
  have hba : Below w.heap.size w w1 := by rw [hw1]; go_grown
  have hz1 : w1.heap.size = w.heap.size + 1 := by rw [hw1]; simp
  have HX1 : Hid (BoxAt w1 w.heap.size (.int .i64 0) (.slice none 0 0)) := Lib.hid (by rw [hw1]; exact BoxAt.made _ _ _ _)
  have HY1 := Lib.hid (h.below hba)
  have HT1 : Hid (But3 b b b w w1) := Lib.hid (But3.of_below hba)
  have HD1 := Lib.hid (HB.out most w1 HY1.out (by omega) (by omega))
  clear hz hl h hba
  go_enter Try.func73, Try.ntmps73
  go_wp2_with fail
  rw [← hw1]
  clear hw1
  refine HD1.out.mono ?_
  rintro e w2 ⟨x, hx, rfl, hy2, ho2⟩
  have hz2 := ho2.size
  have HX2 := Lib.hid (HX1.out.but (But3.one ho2) (by omega))
  have HT2 := Lib.hid (HT1.out.trans (But3.one ho2))
  have HD2 := Lib.hid (HB256.out w2 hy2)
  clear hy2 ho2 HX1 HT1 HD1
  go_wp2_with fail
  refine HD2.out.mono ?_
  rintro e w3 ⟨y1, g1, rfl, hy3, ho3⟩
  have hz3 := ho3.size
  have HX3 := Lib.hid (HX2.out.but (But3.one ho3) (by omega))
  have HT3 := Lib.hid (HT2.out.trans (But3.one ho3))
  have HD3 := Lib.hid (HB256.out w3 hy3)
  clear hy3 ho3 HX2 HT2 HD2
  go_wp2_with fail
  refine HD3.out.mono ?_
  rintro e w4 ⟨y2, g2, rfl, hy4, ho4⟩
  have hz4 := ho4.size
  have HX4 := Lib.hid (HX3.out.but (But3.one ho4) (by omega))
  have HT4 := Lib.hid (HT3.out.trans (But3.one ho4))
  have HD4 := Lib.hid (HB256.out w4 hy4)
  clear hy4 ho4 HX3 HT3 HD3
  go_wp2_with fail
  refine HD4.out.mono ?_
  rintro e w5 ⟨y3, g3, rfl, hy5, ho5⟩
  have hz5 := ho5.size
  have HX5 := Lib.hid (HX4.out.but (But3.one ho5) (by omega))
  have HT5 := Lib.hid (HT4.out.trans (But3.one ho5))
  have HD5 := Lib.hid (HB16.out w5 hy5)
  clear hy5 ho5 HX4 HT4 HD4
  go_wp2_with fail
  refine HD5.out.mono ?_
  rintro e w6 ⟨y4, g4, rfl, hy6, ho6⟩
  have hz6 := ho6.size
  have HX6 := Lib.hid (HX5.out.but (But3.one ho6) (by omega))
  have HT6 := Lib.hid (HT5.out.trans (But3.one ho6))
  have HO1 := Lib.hid (HOF.out x y1 y2 y3 y4 hx g1 g2 g3 g4 w6)
  have HVT := Lib.hid (gameV_ok (1 + x) (fun k => (y1 * 65536 + y2 * 256 + y3 + y4 * 16777216).testBit k) (by omega) (by omega))
  have HVL := Lib.hid (gameV_len (1 + x) (fun k => (y1 * 65536 + y2 * 256 + y3 + y4 * 16777216).testBit k))
  have HY6 := Lib.hid hy6
  clear hy6 ho6 HX5 HT5 HD5 HOF HB HB256 HB16
  generalize gameV (1 + x) (fun k => (y1 * 65536 + y2 * 256 + y3 + y4 * 16777216).testBit k) = V at *
  go_wp2_with fail
  refine HO1.out.mono ?_
  rintro e w7 ⟨G, d, rfl, ho7, hb7⟩
  rw [casts_length, HVL.out]
  have hz7 := hb7.size
  have HX7 := Lib.hid (HX6.out.below hb7)
  have HY7 := Lib.hid (HY6.out.below hb7)
  have HT7 := Lib.hid (HT6.out.trans (But3.of_below hb7))
  have HO7 := Lib.hid ho7
  clear HX6 HY6 HT6 ho7 hb7 HO1
  obtain ⟨r0, r1, f0, f1⟩ := HX7.out
  have f1' : (w7.setCell ⟨w.heap.size, 0, none⟩ (.int .i64 (1 + (x : Int)))).frozen? ⟨w.heap.size, 1, none⟩ = false := by rw [World.frozen?_setCell]; exact f1
  have n0 := (HX7.out.set (.int .i64 (1 + (x : Int))) (.slice G (1 + x) d)).1
  have n1 := (HX7.out.set (.int .i64 (1 + (x : Int))) (.slice G (1 + x) d)).2.1
  have hkp := fun g (hg : g ≠ w.heap.size) => heap_set2 w7 w.heap.size g (.int .i64 (1 + (x : Int))) (.slice G (1 + x) d) hg
  have HKP := Lib.hid hkp
  clear hkp
  go_wp2
  refine bodyPost_ret (v := .agg #[.int .i64 (1 + (x : Int)), .slice G (1 + x) d]) (by simp [results, Try.results73, go_sem, n0, n1]) rfl ?_
  refine ⟨V, G, d, HVT.out, by rw [HVL.out]; omega, by rw [HVL.out, show ((1 + x : Nat) : Int) = 1 + (x : Int) by omega], ?_, ?_, ?_⟩
  · exact Own.mono (HO7.out.keep fun g g1 g2 => HKP.out g (by omega)) (by omega) (by simp)
  · exact HY7.out.belowAt (B := w.heap.size) (((Below.refl _ _).setCell (by show w.heap.size ≤ w.heap.size; omega) _).setCell (by show w.heap.size ≤ w.heap.size; omega) _) hbz
  · refine ⟨HT7.out.os, HT7.out.tape, HT7.out.output, by have := HT7.out.size; simpa using this, fun g hg a1 a2 a3 => (HKP.out g (by omega)).trans (HT7.out.block g hg a1 a2 a3)⟩
end Go.Proofs.Ytaocjjocncoahaa
