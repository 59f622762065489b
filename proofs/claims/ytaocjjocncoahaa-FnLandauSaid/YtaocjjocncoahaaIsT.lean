/- Valid tours as lists of natural numbers; the first steps of a function that takes a tour. -/
import Derived.Test.YtaocjjocncoahaaTourOk
import Derived.Test.YtaocjjocncoahaaSets
namespace Go.Proofs.Ytaocjjocncoahaa
open Go.RowKit

/-- Player a beats player b. -/
def bt (W : List Nat) (a b : Nat) : Bool := (W.getD a 0).testBit b

/-- The rows of wins of a valid tour. -/
structure IsT (W : List Nat) : Prop where
  h1 : 1 ≤ W.length
  h8 : W.length ≤ 8
  lt : ∀ i, W.getD i 0 < 2 ^ W.length
  self : ∀ a, bt W a a = false
  pair : ∀ a b, a < W.length → b < W.length → a ≠ b → bt W a b = !bt W b a

theorem pow_le8 (n : Nat) (h : n ≤ 8) : 2 ^ n ≤ 256 := Nat.le_trans (Nat.pow_le_pow_right (by omega) h) (by decide)
theorem IsT.lt256 {W : List Nat} (h : IsT W) (i : Nat) : W.getD i 0 < 256 := Nat.lt_of_lt_of_le (h.lt i) (pow_le8 _ h.h8)
theorem IsT.lt' {W : List Nat} (h : IsT W) {i : Nat} (hi : i < W.length) : W[i] < 2 ^ W.length := by have := h.lt i; rwa [getD_lt _ _ _ hi] at this
theorem IsT.lt256' {W : List Nat} (h : IsT W) {i : Nat} (hi : i < W.length) : W[i] < 256 := by have := h.lt256 i; rwa [getD_lt _ _ _ hi] at this
theorem bt_lt {W : List Nat} {a b : Nat} (h : a < W.length) : bt W a b = W[a].testBit b := by unfold bt; rw [getD_lt _ _ _ h]
theorem IsT.out {W : List Nat} (h : IsT W) (a b : Nat) (hb : W.length ≤ b) : bt W a b = false :=
  Nat.testBit_lt_two_pow (Nat.lt_of_lt_of_le (h.lt a) (Nat.pow_le_pow_right (by omega) hb))
theorem bt_out {W : List Nat} (a b : Nat) (ha : W.length ≤ a) : bt W a b = false := by
  unfold bt; rw [List.getD, List.getElem?_eq_none ha]; simp

theorem casts_getD (W : List Nat) (i : Nat) : (casts W).getD i 0 = ((W.getD i 0 : Nat) : Int) := by
  unfold casts
  rw [List.getD, List.getD, List.getElem?_map]
  cases W[i]? <;> simp
theorem bit_casts (W : List Nat) (a b : Nat) : bit ((casts W).getD a 0) b = bt W a b := by rw [casts_getD]; rfl

theorem okB_split (s : Int) (zs : List Int) (h : okB s zs = true) : s = (zs.length : Int) ∧ 1 ≤ zs.length ∧ zs.length ≤ 8 ∧ allIn 0 (2 ^ zs.length - 1) zs = true ∧ ∀ a, a < zs.length → okAt zs a = true := by
  unfold okB at h
  simp only [Bool.and_eq_true, decide_eq_true_eq] at h
  obtain ⟨⟨⟨⟨h1, h2⟩, h3⟩, h4⟩, h5⟩ := h
  subst h3
  rw [Int.toNat_natCast] at h4
  rw [List.all_eq_true] at h5
  exact ⟨rfl, by omega, by omega, h4, fun a ha => h5 a (by rwa [List.mem_range])⟩

theorem okAt_iff (zs : List Int) (a : Nat) : okAt zs a = true ↔ bit (zs.getD a 0) a = false ∧ ∀ b, b < a → bit (zs.getD a 0) b = !bit (zs.getD b 0) a := by
  unfold okAt
  rw [Bool.and_eq_true, List.all_eq_true]
  constructor
  · rintro ⟨h1, h2⟩
    refine ⟨by simpa using h1, fun b hb => ?_⟩
    have := h2 b (by rwa [List.mem_range])
    revert this
    cases bit (zs.getD a 0) b <;> cases bit (zs.getD b 0) a <;> simp
  · rintro ⟨h1, h2⟩
    refine ⟨by rw [h1]; rfl, fun b hb => ?_⟩
    rw [h2 b (by rwa [List.mem_range] at hb)]
    cases bit (zs.getD b 0) a <;> simp

theorem ok_tour {s : Int} {zs : List Int} (h : okB s zs = true) : ∃ W : List Nat, zs = casts W ∧ s = (W.length : Int) ∧ IsT W := by
  obtain ⟨hs, h1, h8, ha, ho⟩ := okB_split s zs h
  have hz : casts (zs.map Int.toNat) = zs := by
    unfold casts
    rw [List.map_map]
    refine (List.map_congr_left fun z hz => ?_).trans (List.map_id zs)
    unfold allIn at ha
    rw [List.all_eq_true] at ha
    have := ha z hz
    simp at this
    simp; omega
  generalize hW : zs.map Int.toNat = W at hz
  have hl : zs.length = W.length := by rw [← hW]; simp
  have hb : ∀ i, zs.getD i 0 = ((W.getD i 0 : Nat) : Int) := fun i => by rw [← hz]; exact casts_getD W i
  have hbd := fun i => rows_bd zs h8 ha i
  refine ⟨W, hz.symm, by rw [hs, hl], ⟨by omega, by omega, fun i => ?_, fun a => ?_, fun a b h2 h3 hne => ?_⟩⟩
  · by_cases hi : i < zs.length
    · have := ((allIn_all 0 _ zs).1 ha) i hi
      rw [hb i] at this
      have e : ((2 : Int) ^ zs.length) = ((2 ^ zs.length : Nat) : Int) := by simp
      rw [e] at this
      rw [← hl]
      omega
    · rw [List.getD, List.getElem?_eq_none (by omega)]
      exact Nat.two_pow_pos _
  · by_cases hi : a < zs.length
    · have := ((okAt_iff zs a).1 (ho a hi)).1
      rw [hb a] at this
      exact this
    · exact bt_out a a (by omega)
  · rcases Nat.lt_or_gt_of_ne hne with h4 | h4
    · have := ((okAt_iff zs b).1 (ho b (by omega))).2 a h4
      rw [hb a, hb b] at this
      show bt W a b = !bt W b a
      have h5 : bt W b a = !bt W a b := this
      rw [h5, Bool.not_not]
    · have := ((okAt_iff zs a).1 (ho a (by omega))).2 b h4
      rw [hb a, hb b] at this
      exact this

theorem tour_ok {W : List Nat} (h : IsT W) : okB (W.length : Int) (casts W) = true := by
  unfold okB
  have hl := casts_length W
  have ha : allIn 0 (2 ^ (W.length : Int).toNat - 1) (casts W) = true := by
    rw [allIn_all]
    intro i hi
    rw [casts_getD, Int.toNat_natCast]
    have := h.lt i
    have e : ((2 : Int) ^ W.length) = ((2 ^ W.length : Nat) : Int) := by simp
    rw [e]
    omega
  have hb : (List.range (casts W).length).all (okAt (casts W)) = true := by
    rw [List.all_eq_true]
    intro a ha'
    rw [List.mem_range, hl] at ha'
    rw [okAt_iff]
    refine ⟨by rw [bit_casts]; exact h.self a, fun b hb => ?_⟩
    rw [bit_casts, bit_casts]
    exact h.pair a b ha' (by omega) (by omega)
  rw [ha, hb, hl]
  have := h.h1
  have := h.h8
  simp
  omega

/-- The rows of wins as natural numbers. -/
def toW (zs : List Int) : List Nat := zs.map Int.toNat
theorem toW_casts (W : List Nat) : toW (casts W) = W := by
  unfold toW casts
  rw [List.map_map]
  exact (List.map_congr_left fun n _ => by simp).trans (List.map_id W)
theorem Row.nat {w : World} {B : Nat} {A : Option Addr} {W : List Nat} (h : Row w B A (ints (casts W))) {k : Nat} (hk : k < W.length) :
    ∃ b off, A = some ⟨b, off, none⟩ ∧ b < B ∧ w.cell? ⟨b, off + k, none⟩ = some (.int .i64 (W[k] : Nat)) := by
  obtain ⟨b, off, e, hb, hc⟩ := h.int (k := k) (by rwa [casts_length])
  exact ⟨b, off, e, hb, by rw [hc]; simp [casts]⟩

theorem Own.nat {w : World} {lo hi : Nat} {t : TypeId} {A : Option Addr} {c : Nat} {W : List Nat} (h : Own w lo hi t A c (ints (casts W))) {k : Nat} (hk : k < W.length) :
    ∃ g, A = some ⟨g, 0, none⟩ ∧ lo ≤ g ∧ g < hi ∧ w.cell? ⟨g, k, none⟩ = some (.int .i64 (W[k] : Nat)) ∧ w.frozen? ⟨g, k, none⟩ = false := by
  obtain ⟨g, e, a, b, hc, hf⟩ := h.int (k := k) (by rwa [casts_length])
  exact ⟨g, e, a, b, by rw [hc]; simp [casts], hf⟩
theorem sized_ok {W : List Nat} (p : Nat → Prop) (h : p (casts W).length) : p W.length := by rwa [casts_length] at h
/-- One struct of two cells has been boxed, then a call: the box stands. -/
theorem box1 {w w1 : World} {v0 v1 : Value} {t : TypeId} (hb : Below (w.alloc (.cells #[v0, v1] t)).heap.size (w.alloc (.cells #[v0, v1] t)) w1) :
    w1.cell? ⟨w.heap.size, 0, none⟩ = some v0 ∧ w1.cell? ⟨w.heap.size, 1, none⟩ = some v1 ∧ Below w.heap.size w w1 ∧ w.heap.size + 1 ≤ w1.heap.size :=
  ⟨(hb.cell (p := ⟨w.heap.size, 0, none⟩) (by simp)).trans (by go_simp), (hb.cell (p := ⟨w.heap.size, 1, none⟩) (by simp)).trans (by go_simp),
    Below.trans ((Below.refl _ _).alloc (Nat.le_refl _) _) (hb.mono (by simp)), by have := hb.size; simpa using this⟩
theorem box1N {w w1 : World} {v0 v1 : Value} {t : TypeId} {n : Nat} (hb : Below ((w.alloc (.cells #[v0, v1] t)).drewN n).heap.size ((w.alloc (.cells #[v0, v1] t)).drewN n) w1) :
    w1.cell? ⟨w.heap.size, 0, none⟩ = some v0 ∧ w1.cell? ⟨w.heap.size, 1, none⟩ = some v1 ∧ Below w.heap.size w w1 ∧ w.heap.size + 1 ≤ w1.heap.size :=
  box1 (w := w) (v0 := v0) (v1 := v1) (t := t) ⟨hb.os, hb.tape, hb.output, hb.size, hb.block⟩
/-- A box over a further call. -/
theorem box_keep {w1 w2 : World} {b : Nat} {v0 v1 : Value} (k0 : w1.cell? ⟨b, 0, none⟩ = some v0) (k1 : w1.cell? ⟨b, 1, none⟩ = some v1) (hb : Below w1.heap.size w1 w2) :
    w2.cell? ⟨b, 0, none⟩ = some v0 ∧ w2.cell? ⟨b, 1, none⟩ = some v1 := by
  have hl := World.block_lt_of_cell? w1 _ k0
  exact ⟨(hb.cell (p := ⟨b, 0, none⟩) hl).trans k0, (hb.cell (p := ⟨b, 1, none⟩) hl).trans k1⟩
end Go.Proofs.Ytaocjjocncoahaa
