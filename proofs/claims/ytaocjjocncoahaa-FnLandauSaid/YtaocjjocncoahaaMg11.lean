/- Three blocks alone are turned; a row's own block, tightly. Drawing a tour from bytes: the cursor, l32New, MakeNum, l02Order, walked; a renamed tour is one. -/
import Derived.Test.YtaocjjocncoahaaSortFO
import Derived.Test.YtaocjjocncoahaaCur
import Derived.Test.YtaocjjocncoahaaGame
import Derived.Test.YtaocjjocncoahaaRename
import Derived.Test.YtaocjjocncoahaaMg5
namespace Go.Proofs.Ytaocjjocncoahaa
open Go.RowKit

structure But3 (a b c : Nat) (w w' : World) : Prop where
  os : w'.os = w.os
  tape : w'.tape = w.tape
  output : w'.output = w.output
  size : w.heap.size ≤ w'.heap.size
  block : ∀ g, g < w.heap.size → g ≠ a → g ≠ b → g ≠ c → w'.heap[g]? = w.heap[g]?
section
variable {a b c : Nat} {w w' w'' : World}
theorem But3.refl (a b c : Nat) (w : World) : But3 a b c w w := ⟨rfl, rfl, rfl, Nat.le_refl _, fun _ _ _ _ _ => rfl⟩
theorem But3.trans (h : But3 a b c w w') (k : But3 a b c w' w'') : But3 a b c w w'' :=
  ⟨k.os.trans h.os, k.tape.trans h.tape, k.output.trans h.output, Nat.le_trans h.size k.size, fun g hg ha hb hc => (k.block g (Nat.lt_of_lt_of_le hg h.size) ha hb hc).trans (h.block g hg ha hb hc)⟩
theorem But3.of_below (h : Below w.heap.size w w') : But3 a b c w w' := ⟨h.os, h.tape, h.output, h.size, fun g hg _ _ _ => h.block g hg⟩
theorem But3.of_only {lo hi : Nat} (h : Only lo hi w w') (ho : ∀ g, lo ≤ g → g < hi → g = a ∨ g = b ∨ g = c) : But3 a b c w w' :=
  ⟨h.os, h.tape, h.output, h.size, fun g hg ha hb hc => h.block g hg (by
    rcases Nat.lt_or_ge g lo with h1 | h1
    · exact .inl h1
    · rcases Nat.lt_or_ge g hi with h2 | h2
      · rcases ho g h1 h2 with e | e | e
        · exact absurd e ha
        · exact absurd e hb
        · exact absurd e hc
      · exact .inr h2)⟩
theorem But3.setCell (h : But3 a b c w w') {p : Addr} (hp : p.block = a ∨ p.block = b ∨ p.block = c) (u : Value) : But3 a b c w (w'.setCell p u) :=
  ⟨h.os, h.tape, h.output, by rw [World.size_setCell]; exact h.size, fun g hg ha hb hc => (Below.heap_setCell w' p u g (fun e => by
    rcases hp with hp | hp | hp
    · exact ha (e.trans hp)
    · exact hb (e.trans hp)
    · exact hc (e.trans hp))).trans (h.block g hg ha hb hc)⟩
theorem But3.drew (h : But3 a b c w w') : But3 a b c w w'.drew := ⟨h.os, h.tape, h.output, h.size, h.block⟩
theorem But3.drewN (h : But3 a b c w w') (n : Nat) : But3 a b c w (w'.drewN n) := ⟨h.os, h.tape, h.output, h.size, h.block⟩
theorem But3.cell (h : But3 a b c w w') {p : Addr} (hp : p.block < w.heap.size) (ha : p.block ≠ a) (hb : p.block ≠ b) (hc : p.block ≠ c) : w'.cell? p = w.cell? p := World.cell?_of_block (h.block _ hp ha hb hc)
theorem But3.frozen (h : But3 a b c w w') {p : Addr} (hp : p.block < w.heap.size) (ha : p.block ≠ a) (hb : p.block ≠ b) (hc : p.block ≠ c) : w'.frozen? p = w.frozen? p := World.frozen?_of_block (h.block _ hp ha hb hc)
theorem But3.below {B : Nat} (h : But3 a b c w w') (hB : B ≤ w.heap.size) (ha : B ≤ a) (hb : B ≤ b) (hc : B ≤ c) : Below B w w' :=
  ⟨h.os, h.tape, h.output, Nat.le_trans hB h.size |> fun _ => h.size, fun g hg => h.block g (by omega) (by omega) (by omega) (by omega)⟩
end
theorem Own.tight {w : World} {lo hi g : Nat} {t : TypeId} {c : Nat} {vs : List Value} (h : Own w lo hi t (some ⟨g, 0, none⟩) c vs) : Own w g (g + 1) t (some ⟨g, 0, none⟩) c vs ∧ lo ≤ g ∧ g < hi ∧ g < w.heap.size := by
  rcases h with ⟨h, _⟩ | ⟨g', cur, e, a, b, hh, h1, h2, h3, h4⟩
  · cases h
  · simp only [Option.some.injEq, Addr.mk.injEq, and_true] at e
    subst e
    exact ⟨.inr ⟨g, cur, rfl, Nat.le_refl _, Nat.lt_succ_self _, hh, h1, h2, h3, h4⟩, a, b, (Array.getElem?_eq_some_iff.1 hh).1⟩
end Go.Proofs.Ytaocjjocncoahaa

namespace Go.Proofs.Ytaocjjocncoahaa
open Go.RowKit

/-- The bytes, and the cursor over them in block b. -/
def Byt (w : World) (b : Nat) (A : Option Addr) (c : Nat) (zs : List Int) : Prop := Row w b A (u8s zs) ∧ Cur w b A zs.length c ∧ b < w.heap.size
section
variable {w w' : World} {b c : Nat} {A : Option Addr} {zs : List Int}
theorem Byt.below (h : Byt w b A c zs) (hb : Below w.heap.size w w') : Byt w' b A c zs :=
  ⟨h.1.below hb (Nat.le_of_lt h.2.2), h.2.1.below hb h.2.2, Nat.lt_of_lt_of_le h.2.2 hb.size⟩
theorem Byt.belowAt {B : Nat} (h : Byt w b A c zs) (hb : Below B w w') (hB : b < B) : Byt w' b A c zs :=
  ⟨h.1.below hb (Nat.le_of_lt hB), h.2.1.below hb hB, Nat.lt_of_lt_of_le h.2.2 hb.size⟩
theorem Byt.only (h : Byt w b A c zs) (ho : Only b (b + 1) w w') (hq : Cur w' b A zs.length c) : Byt w' b A c zs :=
  ⟨h.1.rowOnly ho (Nat.le_refl _) (Nat.le_of_lt h.2.2), hq, Nat.lt_of_lt_of_le h.2.2 ho.size⟩
theorem But3.one (h : Only b (b + 1) w w') : But3 b b b w w' := But3.of_only h fun g h1 h2 => .inl (by omega)
end
theorem below_byt (b : Nat) (A : Option Addr) (c : Nat) (zs : List Int) (k : Nat) (w : World) (h : Byt w b A c zs) (hz : ∀ z ∈ zs, 0 ≤ z ∧ z ≤ 255) (hl : zs.length ≤ 1048576) (hk0 : 0 < k) (hk : k ≤ 256) :
    Calls Try.prog 77 #[.pointer (some ⟨b, 0, none⟩), .int .i64 (k : Int)] w fun e w' => ∃ x : Nat, x < k ∧ e = .returned (.int .i64 (x : Int)) ∧ Byt w' b A c zs ∧ Only b (b + 1) w w' := by
  refine (l01Below_any b A c zs k w h.1 hz hl h.2.1 hk0 hk).mono ?_
  rintro e w' ⟨x, hx, rfl, hq, ho⟩
  exact ⟨x, hx, rfl, h.only ho hq, ho⟩
theorem byte_byt (b : Nat) (A : Option Addr) (c : Nat) (zs : List Int) (w : World) (h : Byt w b A c zs) (hz : ∀ z ∈ zs, 0 ≤ z ∧ z ≤ 255) (hl : zs.length ≤ 1048576) :
    Calls Try.prog 57 #[.pointer (some ⟨b, 0, none⟩)] w fun e w' => ∃ x : Nat, x ≤ 255 ∧ e = .returned (.int .i64 (x : Int)) ∧ Byt w' b A c zs ∧ Only b (b + 1) w w' := by
  refine (l01Byte_any b A c zs w h.1 hz hl h.2.1).mono ?_
  rintro e w' ⟨x, hx, rfl, hq, ho⟩
  exact ⟨x, hx, rfl, h.only ho hq, ho⟩
set_option maxRecDepth 20000 in
theorem l32New_any (A : Option Addr) (c : Nat) (zs : List Int) (k : Nat) (w : World) (h : Row w w.heap.size A (u8s zs)) (hz : ∀ z ∈ zs, 0 ≤ z ∧ z ≤ 255) (hl : zs.length ≤ 1048576) (hk : k ≤ 1000) :
    Calls Try.prog 49 #[.slice A zs.length c, .int .i64 (k : Int)] w fun e w' => e = .returned (.pointer (some ⟨w.heap.size, 0, none⟩)) ∧ Byt w' w.heap.size A c zs ∧ Below w.heap.size w w' := by
  have HC := Lib.hid (l01New_any A c zs w h hl)
  have HB := Lib.hid (fun W (hy : Byt W w.heap.size A c zs) => byte_byt w.heap.size A c zs W hy hz hl)
  go_enter Try.func49, Try.ntmps49
  go_wp2_with fail
  refine HC.out.mono ?_
  rintro e w1 ⟨rfl, hq1, hb1, hs1⟩
  have HY1 : Hid (Byt w1 w.heap.size A c zs) := Lib.hid ⟨h.below hb1 (Nat.le_refl _), hq1, hs1⟩
  clear HC h hz hq1
  go_wp2
  go_loopw [6] (fun i wr => ∃ j : Nat, j ≤ k ∧ i = .int .i64 (j : Int) ∧ Hid (Byt wr w.heap.size A c zs) ∧ Below w.heap.size w wr) (fun i _ => k - (intOf i).toNat)
  case atStart => exact ⟨0, Nat.zero_le _, rfl, HY1, hb1⟩
  case round =>
    clear HY1 hb1
    obtain ⟨j, hj, rfl, HY, hb⟩ := hrel
    have hlt0 := HY.out.2.2
    by_cases hlt : j < k
    · have HB1 := Lib.hid (HB.out wr HY.out)
      go_wp2_with fail
      refine HB1.out.mono ?_
      rintro e w2 ⟨x, hx, rfl, hy2, ho2⟩
      have HY2 := Lib.hid hy2
      clear hy2 HB1 HY
      go_wp2
      go_roundw
      case rel => exact ⟨j + 1, by omega, by go_num, HY2, below_only hb ho2 (Nat.le_refl _) (by omega)⟩
      case measure => simp [intOf]; omega
    · obtain rfl : j = k := by omega
      go_wp2
      go_ret
      exact ⟨rfl, HY.out, hb⟩
set_option maxRecDepth 20000 in
theorem makeNum_any (A : Option Addr) (c : Nat) (zs : List Int) (k : Nat) (w : World) (h : Row w w.heap.size A (u8s zs)) (hz : ∀ z ∈ zs, 0 ≤ z ∧ z ≤ 255) (hl : zs.length ≤ 1048576) (hk : k ≤ 1000) :
    Calls Try.prog 24 #[.slice A zs.length c, .int .i64 (k : Int)] w fun e w' => ∃ x : Nat, x ≤ 65535 ∧ e = .returned (.int .i64 (x : Int)) ∧ Below w.heap.size w w' := by
  have HC := Lib.hid (l32New_any A c zs k w h hz hl hk)
  have HB := Lib.hid (fun W (hy : Byt W w.heap.size A c zs) => byte_byt w.heap.size A c zs W hy hz hl)
  clear h hz
  go_enter Try.func24, Try.ntmps24
  go_wp2_with fail
  refine HC.out.mono ?_
  rintro e w1 ⟨rfl, hy1, hb1⟩
  have HB1 := Lib.hid (HB.out w1 hy1)
  have hs1 := hy1.2.2
  go_wp2_with fail
  refine HB1.out.mono ?_
  rintro e w2 ⟨x, hx, rfl, hy2, ho2⟩
  have HB2 := Lib.hid (HB.out w2 hy2)
  go_wp2_with fail
  refine HB2.out.mono ?_
  rintro e w3 ⟨y, hy, rfl, hy3, ho3⟩
  go_wp2
  go_ret
  exact ⟨x * 256 + y, by omega, by first | rfl | (congr 2; omega) | go_num, hb1.trans ((ho2.trans ho3).below (Nat.le_refl _) (by omega))⟩
theorem cell_oneO (w : World) (v : Value) (t : TypeId) : (w.alloc (.cells #[v] t)).cell? ⟨w.heap.size, 0, none⟩ = some v := by go_simp
theorem take_lenO (out : List Int) (j : Nat) (h : j ≤ out.length) : j = (out.take j).length := by rw [List.length_take]; omega
theorem ins_perm {L : List Nat} {k : Nat} (h : L.Perm (List.range k)) (x : Nat) : (L.take x ++ k :: L.drop x).Perm (List.range (k + 1)) := by
  refine List.perm_middle.trans ?_
  rw [List.take_append_drop, List.range_succ]
  exact (List.Perm.cons k h).trans (List.perm_append_comm (l₁ := [k]) (l₂ := List.range k))
theorem ins_casts (L : List Nat) (k x : Nat) : casts (L.take x ++ k :: L.drop x) = (casts L).take x ++ [(k : Int)] ++ (casts L).drop x := by
  simp [casts, List.map_take, List.map_drop]
/-- An order drawn; the cursor's block has turned. -/
def NewOrder (w : World) (b : Nat) (A : Option Addr) (c : Nat) (zs : List Int) (n : Nat) (e : Ending) (w' : World) : Prop :=
  ∃ (L : List Nat) (G : Option Addr) (d : Nat), L.Perm (List.range n) ∧ e = .returned (.slice G n d) ∧ Own w' w.heap.size w'.heap.size 3 G d (ints (casts L)) ∧ Byt w' b A c zs ∧ But3 b b b w w'
set_option maxRecDepth 20000 in
set_option maxHeartbeats 3200000 in
theorem l02Order_any (b : Nat) (A : Option Addr) (c : Nat) (zs : List Int) (n : Nat) (w : World) (h : Byt w b A c zs) (hz : ∀ z ∈ zs, 0 ≤ z ∧ z ≤ 255) (hl : zs.length ≤ 1048576) (h8 : n ≤ 8) :
    Calls Try.prog 76 #[.pointer (some ⟨b, 0, none⟩), .int .i64 (n : Int)] w (NewOrder w b A c zs n) := by
  have HB := Lib.hid (fun k W (hy : Byt W b A c zs) (h0 : 0 < k) (h1 : k ≤ 256) => below_byt b A c zs k W hy hz hl h0 h1)
  have hbz := h.2.2
  have hba : Below w.heap.size w (w.alloc (.cells #[] 3)) := by go_grown
  have HY0 := Lib.hid (h.below hba)
  have HO0 : Hid (Own (w.alloc (.cells #[] 3)) w.heap.size (w.alloc (.cells #[] 3)).heap.size 3 (some ⟨w.heap.size, 0, none⟩) 0 (ints (casts []))) := Lib.hid ((Own.made w w.heap.size 3 #[] (Nat.le_refl _) (by simp)).mono (Nat.le_refl _) (by simp))
  have HT0 : Hid (But3 b b b w (w.alloc (.cells #[] 3))) := Lib.hid (But3.of_below hba)
  clear hz hl h hba
  go_enter Try.func76, Try.ntmps76
  go_wp2
  go_loopw [5, 6] (fun v i wr => ∃ (k : Nat) (L : List Nat) (g d : Nat), k ≤ n ∧ i = .int .i64 (k : Int) ∧ L.Perm (List.range k) ∧ v = .slice (some ⟨g, 0, none⟩) k d ∧ Hid (Own wr w.heap.size wr.heap.size 3 (some ⟨g, 0, none⟩) d (ints (casts L))) ∧ Hid (Byt wr b A c zs) ∧ Hid (But3 b b b w wr)) (fun _ i _ => n - (intOf i).toNat)
  case atStart => exact ⟨0, [], w.heap.size, 0, Nat.zero_le _, rfl, List.Perm.refl _, rfl, HO0, HY0, HT0⟩
  case round =>
    clear HO0 HY0 HT0
    obtain ⟨k, L, g, d, hk, rfl, hp, rfl, HO, HY, HT⟩ := hrel
    have hll : L.length = k := by rw [hp.length_eq, List.length_range]
    have hTz := HT.out.size
    by_cases hlt : k < n
    · have HBk := Lib.hid (HB.out (k + 1) wr HY.out (by omega) (by omega))
      have hwk : IntKind.i64.wrap ((k : Int) + 1) = ((k + 1 : Nat) : Int) := by rw [IntKind.wrap_i64]; omega
      go_wp2_with fail
      refine HBk.out.mono ?_
      rintro e w3 ⟨x, hx, rfl, hy3, ho3⟩
      have HY3 := Lib.hid hy3
      have hz3 := ho3.size
      have HT3 := Lib.hid (HT.out.trans (But3.one ho3))
      have HO3 := Lib.hid (HO.out.only ho3 (Nat.le_refl _) (.inr (by omega)))
      have HPM := Lib.hid (ins_perm hp x)
      have HCS := Lib.hid (ins_casts L k x)
      have HNL := Lib.hid (show (casts L).length = k by rw [casts_length, hll])
      have hkd : k ≤ d := by have := HO3.out.cap.1; rwa [ints_length, HNL.out] at this
      have hdm : d ≤ 9223372036854775807 := by have := HO3.out.cap.2; unfold maxLen at this; exact this
      generalize casts L = rest at *
      have HF1 := Lib.hid (take_lenO rest x (by have := HNL.out; omega))
      have HF2 := Lib.hid (Own.made w3 w3.heap.size 3 #[] (Nat.le_refl _) (by simp))
      have HOa := Lib.hid (HO3.out.alloc (by omega) (.cells #[] 3))
      have HF3 := Lib.hid (Row.intTake (HOa.out.mono (Nat.le_refl _) (show wr.heap.size ≤ w3.heap.size by omega)).row x)
      have HDL : Hid (k - x = (rest.drop x).length) := Lib.hid (by rw [List.length_drop, HNL.out])
      have hjd : (x < d ∧ (x : Int) < (d : Int) ∧ ¬ (d = x) ∧ ¬ (x = d)) ∨ (k ≤ x ∧ x = d) := by omega
      have hkr : x ≤ k := by omega
      have b1 : (0 : Int) ≤ (x : Int) := by omega
      have b2 : (x : Int) ≤ (k : Int) := by omega
      have b6 : (x : Int) ≤ (d : Int) := by omega
      have hb4a : Below w3.heap.size w3 (w3.alloc (.cells #[] 3)) := by go_grown
      clear hy3 ho3 HBk HO hp hll HY HT
      rcases hjd with ⟨hjd, hjd1, hjd2, hjd3⟩ | ⟨hle, rfl⟩
      all_goals
        go_wp2_with (at_builtin; refine wpList_pushAny rfl (.tmp 19) (.tmp 22) rfl w3.heap.size (w3.heap.size + 1) w3.heap.size (some ⟨w3.heap.size, 0, none⟩) (some ⟨g, 0, none⟩) 0 0 x _ x [] (rest.take x) rfl rfl rfl HF1.out (Nat.zero_add x).symm HF2.out HF3.out (by omega) (by simp) (by simp) ?_)
        intro A4 d4 w4 ho4 hg4
        have hs4 : w3.heap.size + 1 ≤ w4.heap.size := by simpa using hg4.size
        have HO4 := Lib.hid ho4
        have HP4 := Lib.hid (HOa.out.only hg4 (by simp; omega) (.inl (by omega)))
        have hb4 := below_only hb4a hg4 (Nat.le_refl _) (by simp)
        clear ho4 hg4
        go_wp2_with (at_builtin; refine wpList_push rfl (.tmp 24) (.tmp 26) rfl w3.heap.size w4.heap.size A4 d4 x (rest.take x) (k : Int) w4.heap.size rfl rfl HF1.out (HO4.out.alloc (Nat.le_refl _) _) (cell_oneO _ _ _) (by omega) (by simp; omega) ?_)
        intro A5 d5 w5 ho5 hg5
        have hs5 : w4.heap.size + 1 ≤ w5.heap.size := by simpa using hg5.size
        have HO5 := Lib.hid ho5
        have HP5 := Lib.hid ((HP4.out.alloc (by omega) _).only hg5 (by simp; omega) (.inl (by omega)))
        have hb5 := below_only (hb4.alloc (by omega) _) hg5 (Nat.le_refl _) (by simp; omega)
        have HR5 := Lib.hid ((HP5.out.mono (Nat.le_refl _) (show wr.heap.size ≤ w3.heap.size by omega)).row.dropAt (k := x))
        clear ho5 hg5
        go_wp2_with (at_builtin; refine wpList_pushAny rfl (.tmp 28) (.tmp 31) rfl w3.heap.size w5.heap.size w3.heap.size A5 _ d5 (x + 1) _ _ _ (rest.take x ++ [(k : Int)]) (rest.drop x) rfl rfl (by rw [List.length_append, ← HF1.out]; rfl) (by first | exact HDL.out | (have := HDL.out; omega)) rfl HO5.out (by first | exact HR5.out | (simpa using HR5.out) | exact Row.empty _ (List.drop_eq_nil_of_le (by rw [HNL.out]; omega))) (by omega) (by omega) (Nat.le_refl _) ?_)
        intro A6 d6 w6 ho6 hg6
        have hb6 := below_only hb5 hg6 (Nat.le_refl _) (by omega)
        obtain ⟨g6, rfl, _⟩ := ho6.int (k := 0) (by simp; omega)
        have HO6 := Lib.hid (ho6.mono (show w.heap.size ≤ w3.heap.size by omega) (Nat.le_refl _))
        have HY6 := Lib.hid (HY3.out.below hb6)
        have HT6 := Lib.hid (HT3.out.trans (But3.of_below hb6))
        have hle6 : x + 1 + (k - x) = k + 1 := by omega
        clear ho6 hg6 hb6 hb5 hb4
        go_wp2
        go_roundw
        case rel => exact ⟨k + 1, _, g6, d6, by omega, by go_num, HPM.out, by first | rfl | (congr 1; omega) | (simp; omega) | go_num, by rw [HCS.out]; first | exact HO6 | simpa using HO6, HY6, HT6⟩
        case measure => simp [intOf]; omega
    · obtain rfl : k = n := by omega
      go_wp2
      go_ret
      exact ⟨L, some ⟨g, 0, none⟩, d, hp, rfl, HO.out, HY.out, HT.out⟩

/-! ### A renamed tour is one -/
theorem order_of {L : List Nat} {n : Nat} (hp : L.Perm (List.range n)) : orderB (casts L) = true := by
  have hl : L.length = n := by rw [hp.length_eq, List.length_range]
  have hn : L.Nodup := hp.nodup_iff.2 List.nodup_range
  refine orderB_yes _ fun j hj => ?_
  rw [casts_length] at hj
  rw [permAt_eq _ _ (by rwa [casts_length])]
  have e : (casts L)[j]'(by rwa [casts_length]) = (L[j] : Int) := by simp [casts]
  have h1 : L[j] < n := List.mem_range.1 (hp.mem_iff.1 (List.getElem_mem hj))
  have h2 : ((casts L).take j).any (fun y => (casts L)[j]'(by rwa [casts_length]) == y) = false := by
    rw [List.any_eq_false]
    intro y hy
    rw [casts, ← List.map_take, List.mem_map] at hy
    obtain ⟨x, hx, rfl⟩ := hy
    rw [e]
    obtain ⟨i, hi, rfl⟩ := List.mem_iff_getElem.1 hx
    rw [List.length_take] at hi
    rw [List.getElem_take]
    have := List.pairwise_iff_getElem.1 hn i j (by omega) hj (by omega)
    simp
    omega
  rw [h2, e, casts_length]
  simp
  omega
theorem qI_lt {L : List Nat} {n : Nat} (hp : L.Perm (List.range n)) {x : Nat} (hx : x < n) : ∃ h : qI (casts L) x < L.length, L[qI (casts L) x] = x := by
  have hm : x ∈ L := hp.mem_iff.2 (List.mem_range.2 hx)
  have hlt : (casts L).findIdx (fun y => (x : Int) == y) < (casts L).length := List.findIdx_lt_length_of_exists ⟨(x : Int), by rw [casts, List.mem_map]; exact ⟨x, hm, rfl⟩, by simp⟩
  have h1 := List.findIdx_getElem (w := hlt)
  rw [beq_iff_eq] at h1
  have h2 : qI (casts L) x < L.length := by rw [casts_length] at hlt; exact hlt
  refine ⟨h2, ?_⟩
  have e : (casts L)[qI (casts L) x]'(by rw [casts_length]; exact h2) = (L[qI (casts L) x] : Int) := by simp [casts]
  have h3 : (x : Int) = (casts L)[qI (casts L) x]'(by rw [casts_length]; exact h2) := h1
  rw [e] at h3
  omega
theorem renW_ok {W L : List Nat} (hT : IsT W) (hp : L.Perm (List.range W.length)) : IsT (renW W (casts L)) := by
  have hbt : ∀ a b, a < W.length → bt (renW W (casts L)) a b = (decide (b < W.length) && bt W (qI (casts L) a) (qI (casts L) b)) := fun a b ha => by
    unfold bt
    rw [getD_lt _ _ _ (by rwa [renW_length])]
    simp only [renW, List.getElem_map, List.getElem_range]
    rw [testBit_ofB]
    rfl
  have hll : L.length = W.length := by rw [hp.length_eq, List.length_range]
  refine ⟨by rw [renW_length]; exact hT.h1, by rw [renW_length]; exact hT.h8, fun i => ?_, fun a => ?_, fun a b ha hb hab => ?_⟩
  · rw [renW_length]
    by_cases hi : i < W.length
    · rw [getD_lt _ _ _ (by rwa [renW_length])]
      simp only [renW, List.getElem_map]
      exact ofB_lt _ _
    · rw [List.getD, List.getElem?_eq_none (by rw [renW_length]; omega)]
      exact Nat.two_pow_pos _
  · by_cases ha : a < W.length
    · rw [hbt a a ha, hT.self, Bool.and_false]
    · exact bt_out _ _ (by rw [renW_length]; omega)
  · rw [renW_length] at ha hb
    rw [hbt a b ha, hbt b a hb, decide_eq_true ha, decide_eq_true hb, Bool.true_and, Bool.true_and]
    obtain ⟨h1, e1⟩ := qI_lt hp ha
    obtain ⟨h2, e2⟩ := qI_lt hp hb
    refine hT.pair _ _ (by omega) (by omega) fun e => hab ?_
    rw [← e1, ← e2]
    congr 1
end Go.Proofs.Ytaocjjocncoahaa
