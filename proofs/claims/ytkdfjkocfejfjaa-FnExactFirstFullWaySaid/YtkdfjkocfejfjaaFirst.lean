/- FirstFullWay, walked on both sides. -/
import Derived.Test.YtkdfjkocfejfjaaFirstI
namespace Go.Proofs.Ytkdfjkocfejfjaa
open Go.RowKit

/-- What both functions answer. -/
def rFirstFullWay (s : Int) (zs : List Int) : List Int := if okB s zs then casts ((firstL (toW zs)).getD []) else []
theorem gW_length (W : List Nat) : ∀ (f : Nat) (way : List Nat) (left : Nat), (gW W f way left).length ≤ way.length + f
  | 0, way, left => by rw [gW]; omega
  | f + 1, way, left => by
    rw [gW]
    split
    · omega
    · rename_i b _
      have := gW_length W f (way ++ [b]) (left - 2 ^ b)
      rw [List.length_append, List.length_singleton] at this
      omega
theorem firstL_len (W : List Nat) (hT : IsT W) (r : List Nat) (h : firstL W = some r) : r.length ≤ 8 := by
  have := gW_length W W.length [] (2 ^ W.length - 1)
  rw [firstL_g W hT r h] at this
  have := hT.h8
  simp at *
  omega
theorem rFirstFullWay_len (s : Int) (zs : List Int) : (rFirstFullWay s zs).length ≤ 1099511627776 := by
  unfold rFirstFullWay
  split
  · rename_i h
    obtain ⟨W, rfl, rfl, hT⟩ := ok_tour h
    rw [toW_casts]
    obtain ⟨r, hr⟩ := firstL_some W hT
    have := firstL_len W hT r hr
    rw [hr, Option.getD_some, casts_length]
    omega
  · simp
theorem firstL_miss {W : List Nat} (h : ∀ i, i < W.length → fW W (W.length - 1) i (others W.length i) [i] = none) : firstL W = none := by
  unfold firstL
  rw [List.findSome?_eq_none_iff]
  intro x hx
  exact h x (List.mem_range.1 hx)
theorem firstL_hit {W : List Nat} {a : Nat} {l : List Nat} (ha : a < W.length) (h : ∀ i, i < a → fW W (W.length - 1) i (others W.length i) [i] = none) (hq : fW W (W.length - 1) a (others W.length a) [a] = some l) : firstL W = some l := by
  unfold firstL
  rw [List.findSome?_eq_some_iff]
  have hlen : a < (List.range W.length).length := by simpa using ha
  refine ⟨(List.range W.length).take a, a, (List.range W.length).drop (a + 1), ?_, hq, ?_⟩
  · have e : (List.range W.length)[a] = a := List.getElem_range ..
    have e2 := List.drop_eq_getElem_cons hlen
    rw [e] at e2
    rw [← e2, List.take_append_drop]
  · intro y hy
    obtain ⟨i, hi, rfl⟩ := List.mem_iff_getElem.1 hy
    rw [List.length_take] at hi
    rw [List.getElem_take, List.getElem_range]
    exact h i (by omega)
theorem one_way (n a : Nat) (h8 : n ≤ 8) (ha : a < n) : sT (casts [a]) = 2 ^ n - 1 - others n a := by
  rw [(others_ok n a h8 ha).2.2.2]
  simp [sT, casts]
set_option maxHeartbeats 1600000 in
theorem iFirstFullWay_any (A : Option Addr) (c : Nat) (s : Int) (zs : List Int) (w : World) (h : Row w w.heap.size A (ints zs)) (hl : zs.length ≤ 1099511627776) :
    Calls Try.prog 21 #[.agg #[.int .i64 s, .slice A zs.length c]] w (NewInts w 3 (rFirstFullWay s zs)) := by
  cases ho : okB s zs with
  | false =>
    have N : Hid (rFirstFullWay s zs = []) := Lib.hid (by unfold rFirstFullWay; rw [ho]; rfl)
    have HO := Lib.hid ho
    clear ho
    go_enter Try.func21, Try.ntmps21
    go_wp2_with fail
    refine (iTourOk_any A c s zs _ (h.rowAt (by go_grown) (Nat.le_refl _)) hl).mono ?_
    rw [HO.out]
    rintro e w1 ⟨rfl, hb⟩
    obtain ⟨k0, k1, hbw, hsz⟩ := box1 hb
    clear hb
    go_wp2
    go_ret
    exact newInts_none _ N.out hbw
  | true =>
    obtain ⟨W, rfl, rfl, hT⟩ := ok_tour ho
    have R : Hid (rFirstFullWay (W.length : Int) (casts W) = (casts ((firstL W).getD []))) := Lib.hid (by unfold rFirstFullWay; rw [ho, toW_casts]; rfl)
    have g1 := hT.h1
    have g8 := hT.h8
    rw [casts_length]
    rw [R.out]
    clear R
    clear ho hl
    go_enter Try.func21, Try.ntmps21
    go_wp2_with fail
    refine (iTourOkW A c W _ hT (h.rowAt (by go_grown) (Nat.le_refl _))).mono ?_
    rintro e w1 ⟨rfl, hb⟩
    obtain ⟨k0, k1, hbw, hsz⟩ := box1 hb
    have h := h.rowAt hbw (Nat.le_refl _)
    clear hb
    have HOT := Lib.hid (fun a ha => others_ok W.length a g8 ha)
    have HMISS := Lib.hid (@firstL_miss W)
    have HHIT := Lib.hid (fun a l => @firstL_hit W a l)
    have HWO := Lib.hid (fun a B d w2 (ha : a < W.length) hrow hlo hown => wayOn_any A c W hT (W.length - 1) [a] a (others W.length a) B d 1 w2.heap.size w2 rfl (by omega) rfl (by intro x hx; rw [List.mem_singleton] at hx; omega) (HOT.out a ha).1 (HOT.out a ha).2.1 (one_way _ _ g8 ha) hrow hlo hown)
    have HWP := Lib.hid (fun a B d lo (w2 : World) (ha : a < W.length) hrow hlo hown => wayOn_any A c W hT (W.length - 1) [a] a (others W.length a) B d 1 lo w2 rfl (by omega) rfl (by intro x hx; rw [List.mem_singleton] at hx; omega) (HOT.out a ha).1 (HOT.out a ha).2.1 (one_way _ _ g8 ha) hrow hlo hown)
    have hnilF := fun (WW : World) => run_neq_slice_nil_any (P := Try.prog) WW 22 3 none 0 0 0 0 Try.underlying22
    have hnilT := fun (WW : World) (q n e : Nat) => run_neq_slice_nil_any (P := Try.prog) WW 22 3 (some ⟨q, 0, none⟩) n e 0 0 Try.underlying22
    clear HWO
    go_wp2
    go_loopw [10] (fun i wr => ∃ (a : Nat), a ≤ W.length ∧ i = .int .i64 (a : Int) ∧ Hid (∀ i, i < a → fW W (W.length - 1) i (others W.length i) [i] = none) ∧ Below w1.heap.size w1 wr) (fun i _ => W.length - (intOf i).toNat)
    case atStart => exact ⟨0, Nat.zero_le _, rfl, Lib.hid (fun i hi => absurd hi (Nat.not_lt_zero _)), Below.refl _ _⟩
    case round =>
      obtain ⟨a, ha, rfl, HN, hb⟩ := hrel
      obtain ⟨c0, c1⟩ := held_at k0 k1 hb
      by_cases hlt : a < W.length
      · have hrow := h.rowAt hb (Nat.le_refl _)
        have hown : Own (wr.alloc (.cells #[.int .i64 (a : Int)] 3)) wr.heap.size (wr.heap.size + 1) 3 (some ⟨wr.heap.size, 0, none⟩) 1 (ints (casts [a])) := Own.made wr wr.heap.size 3 #[.int .i64 (a : Int)] (Nat.le_refl _) (by simp [maxLen])
        have HX := Lib.hid (HWP.out a (some ⟨wr.heap.size, 0, none⟩) 1 wr.heap.size (wr.alloc (.cells #[.int .i64 (a : Int)] 3)) hlt (hrow.alloc (Nat.le_refl _) _) (by simp) (by rw [World.size_alloc]; exact hown))
        have HNX := Lib.hid (fun (hq : fW W (W.length - 1) a (others W.length a) [a] = none) => (Lib.hid (fun i hi => by
          by_cases e : i = a
          · subst e; exact hq
          · exact HN.out i (by omega)) : Hid (∀ i, i < a + 1 → fW W (W.length - 1) i (others W.length i) [i] = none)))
        have HHI := Lib.hid (fun l hq => HHIT.out a l hlt HN.out hq)
        have d0 : (wr.alloc (.cells #[.int .i64 (a : Int)] 3)).cell? ⟨w.heap.size, 0, none⟩ = some (.int .i64 (W.length : Int)) := (World.cell?_alloc_lt wr _ ⟨w.heap.size, 0, none⟩ (by have := hb.size; show w.heap.size < _; omega)).trans c0
        clear hrow hown
        cases hq : fW W (W.length - 1) a (others W.length a) [a] with
        | none =>
          have HN2 := HNX.out hq
          rw [hq] at HX
          clear hq HNX HHI
          go_wp2_with fail
          refine HX.out.mono ?_
          rintro e w5 ⟨ho5, hk5, rfl⟩
          have hb5 : Below wr.heap.size wr w5 := ((Below.refl _ _).alloc (Nat.le_refl _) _).trans (hk5.below (Nat.le_refl _) (by simp))
          clear ho5 hk5
          go_wp2
          go_roundw
          case rel => exact ⟨a + 1, by omega, by go_num, HN2, hb.trans (hb5.mono hb.size)⟩
          case measure => simp [intOf]; omega
        | some l =>
          have HL := Lib.hid (HHI.out l hq)
          rw [hq] at HX
          clear hq HNX HHI
          go_wp2_with fail
          refine HX.out.mono ?_
          rintro e w5 ⟨ho5, hk5, g5, c5, rfl, hor5⟩
          have hb5 : Below wr.heap.size wr w5 := ((Below.refl _ _).alloc (Nat.le_refl _) _).trans (hk5.below (Nat.le_refl _) (by simp))
          have hz := hb.size
          have hz2 := hbw.size
          have HO5 := Lib.hid (hor5.mono (show w.heap.size ≤ _ by simp; omega) (Nat.le_refl _))
          clear ho5 hk5 hor5
          go_wp2
          go_ret
          rw [HL.out, Option.getD_some]
          exact ⟨some ⟨g5, 0, none⟩, c5, ret_slice (by rw [casts_length]), HO5.out, hbw.trans ((hb.trans (hb5.mono hb.size)).mono hbw.size)⟩
      · obtain rfl : a = W.length := by omega
        have HL := Lib.hid (HMISS.out HN.out)
        go_wp2
        go_ret
        rw [HL.out]
        exact newInts_none _ rfl (hbw.trans (hb.mono hbw.size))
theorem fs_next {w1 wr wv : World} {b g n : Nat} {v0 v1 v2 : Value} (H : Below w1.heap.size w1 wr ∧ wr.cell? ⟨b, 0, none⟩ = some v0 ∧ wr.cell? ⟨b, 1, none⟩ = some v1 ∧ wr.cell? ⟨g, n, none⟩ = some v2) (hb : Below wr.heap.size wr wv) :
    Below w1.heap.size w1 wv ∧ wv.cell? ⟨b, 0, none⟩ = some v0 ∧ wv.cell? ⟨b, 1, none⟩ = some v1 ∧ wv.cell? ⟨g, n, none⟩ = some v2 := by
  obtain ⟨h, c0, c1, c2⟩ := H
  have hlt : ∀ (p : Addr) (v : Value), wr.cell? p = some v → p.block < wr.heap.size := fun p v e => World.block_lt_of_cell? _ _ e
  exact ⟨below_trans h hb, (hb.cell (p := ⟨b, 0, none⟩) (hlt _ _ c0)).trans c0, (hb.cell (p := ⟨b, 1, none⟩) (hlt _ _ c1)).trans c1, (hb.cell (p := ⟨g, n, none⟩) (hlt _ _ c2)).trans c2⟩
theorem fs_next0 {w1 wr wv : World} {b : Nat} {v0 v1 : Value} (H : Below w1.heap.size w1 wr ∧ wr.cell? ⟨b, 0, none⟩ = some v0 ∧ wr.cell? ⟨b, 1, none⟩ = some v1) (hb : Below wr.heap.size wr wv) :
    Below w1.heap.size w1 wv ∧ wv.cell? ⟨b, 0, none⟩ = some v0 ∧ wv.cell? ⟨b, 1, none⟩ = some v1 := by
  obtain ⟨h, c0, c1⟩ := H
  exact ⟨below_trans h hb, (hb.cell (p := ⟨b, 0, none⟩) (World.block_lt_of_cell? _ _ c0)).trans c0, (hb.cell (p := ⟨b, 1, none⟩) (World.block_lt_of_cell? _ _ c1)).trans c1⟩
theorem slice_lenF {A : Option Addr} {a b c : Nat} (h : a = b) : Value.slice A a c = .slice A b c := by rw [h]
theorem find_at {α : Type} (p : α → Bool) (l : List α) (j : Nat) (hj : j < l.length) (hp : p l[j] = true) (hn : ∀ i (hi : i < l.length), i < j → p l[i] = false) : l.find? p = some l[j] := by
  rw [List.find?_eq_some_iff_append]
  refine ⟨hp, l.take j, l.drop (j + 1), ?_, ?_⟩
  · rw [← List.drop_eq_getElem_cons hj, List.take_append_drop]
  · intro y hy
    obtain ⟨i, hi, rfl⟩ := List.mem_iff_getElem.1 hy
    rw [List.length_take] at hi
    rw [List.getElem_take, hn i (by omega) (by omega)]
    rfl
theorem find_no {α : Type} (p : α → Bool) (l : List α) (b : α) (hb : l.find? p = some b) (hn : ∀ i (hi : i < l.length), i < l.length → p l[i] = false) : False := by
  have h1 := List.find?_some hb
  have h2 := List.mem_of_find?_eq_some hb
  obtain ⟨i, hi, e⟩ := List.mem_iff_getElem.1 h2
  have := hn i hi hi
  rw [e, h1] at this
  cases this
/-- What stands at the head of a round. -/
structure FsOk (W : List Nat) (f s : Nat) (L : List Nat) : Prop where
  lt : s < 2 ^ W.length
  pcs : pc 8 s = f
  same : gW W f L s = gW W W.length [] (2 ^ W.length - 1)
  find : ∀ f', f = f' + 1 → ∃ b, (mem 8 s).find? (okF W f' L s) = some b
  inn : ∀ x ∈ L, x < W.length
  len : L.length + f = W.length
theorem FsOk.begin {W : List Nat} (hT : IsT W) : FsOk W W.length (2 ^ W.length - 1) [] := by
  have := Nat.two_pow_pos W.length
  refine ⟨by omega, pc_all _ hT.h8, rfl, ?_, fun x hx => absurd hx (by simp), by simp⟩
  intro f' hf
  obtain ⟨b, hb⟩ := first_begin W hT
  rw [show W.length - 1 = f' by omega] at hb
  exact ⟨b, hb⟩
theorem FsOk.next {W : List Nat} (hT : IsT W) {f s : Nat} {L : List Nat} (h : FsOk W (f + 1) s L) {b : Nat} (hb : (mem 8 s).find? (okF W f L s) = some b) : FsOk W f (s - 2 ^ b) (L ++ [b]) ∧ b < W.length ∧ s.testBit b = true ∧ b < 8 := by
  have hm := (mem_mem 8 s b).1 (List.mem_of_find?_eq_some hb)
  have hok := List.find?_some hb
  have h256 : s < 256 := Nat.lt_of_lt_of_le h.lt (pow_le8 _ hT.h8)
  have hbn : b < W.length := by
    rcases Nat.lt_or_ge b W.length with h' | h'
    · exact h'
    · have := Nat.testBit_lt_two_pow (Nat.lt_of_lt_of_le h.lt (Nat.pow_le_pow_right (by omega) h'))
      rw [this] at hm; simp at hm
  have hpc := pc_sub s b h256 hm.1 hm.2
  have hpc0 := h.pcs
  refine ⟨⟨Nat.lt_of_le_of_lt (Nat.sub_le _ _) h.lt, by omega, ?_, ?_, ?_, ?_⟩, hbn, hm.2, hm.1⟩
  · rw [← h.same, gW, hb]
  · intro f' hf
    subst hf
    unfold okF at hok
    rw [Bool.and_eq_true] at hok
    exact first_next W f' b _ L (of_decide_eq_true hok.2)
  · intro x hx
    rcases List.mem_append.1 hx with h' | h'
    · exact h.inn x h'
    · rw [List.mem_singleton] at h'; omega
  · have := h.len
    rw [List.length_append, List.length_singleton]
    omega
end Go.Proofs.Ytkdfjkocfejfjaa
