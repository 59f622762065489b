/- FullWay, walked. -/
import Derived.Test.YtkdfjkocfejfjaaInsert
import Derived.Test.YtkdfjkocfejfjaaSort
import Derived.Test.YtkdfjkocfejfjaaSortF
namespace Go.Proofs.Ytkdfjkocfejfjaa
open Go.RowKit

/-- Where a stands in a way: ahead of the first one whom it beats. -/
def posW (W : List Nat) (a : Nat) (out : List Int) : Nat := out.findIdx fun z => bt W a z.toNat
/-- The way of the first k players. -/
def fwL (W : List Nat) : Nat → List Int
  | 0 => []
  | k + 1 => insAt (fwL W k) (posW W k (fwL W k)) (k : Int)
theorem posW_le (W : List Nat) (a : Nat) (out : List Int) : posW W a out ≤ out.length := List.findIdx_le_length
theorem fwL_length (W : List Nat) (k : Nat) : (fwL W k).length = k := by
  induction k with
  | zero => rfl
  | succ k ih => rw [fwL, insAt_length _ _ _ (posW_le _ _ _), ih]
theorem fwL_mem (W : List Nat) (k : Nat) : ∀ z ∈ fwL W k, ∃ v : Nat, v < k ∧ z = (v : Int) := by
  induction k with
  | zero => intro z hz; cases hz
  | succ k ih =>
    intro z hz
    rw [fwL] at hz
    unfold insAt at hz
    rw [List.mem_append, List.mem_cons] at hz
    rcases hz with hz | hz | hz
    · obtain ⟨v, hv, e⟩ := ih z (List.mem_of_mem_take hz)
      exact ⟨v, by omega, e⟩
    · exact ⟨k, by omega, hz⟩
    · obtain ⟨v, hv, e⟩ := ih z (List.mem_of_mem_drop hz)
      exact ⟨v, by omega, e⟩
def rFullWay (s : Int) (zs : List Int) : List Int := if okB s zs then fwL (toW zs) (toW zs).length else []
theorem rFullWay_len (s : Int) (zs : List Int) : (rFullWay s zs).length ≤ 1048576 := by
  unfold rFullWay
  cases ho : okB s zs
  · simp
  · obtain ⟨W, rfl, rfl, hT⟩ := ok_tour ho
    have := hT.h8
    rw [if_pos rfl, fwL_length, toW_casts]
    omega
theorem fw_pred (A : Option Addr) (c : Nat) (W : List Nat) (k : Nat) (out : List Int) (w : World) (hT : IsT W) (h : Row w w.heap.size A (ints (casts W))) (hk : k < W.length) (ho : ∀ z ∈ out, ∃ v : Nat, v < W.length ∧ z = (v : Int)) (b q : Nat)
    (k0 : w.cell? ⟨b, 0, none⟩ = some (.int .i64 (W.length : Int))) (k1 : w.cell? ⟨b, 1, none⟩ = some (.slice A W.length c)) (kq : w.cell? ⟨q, 0, none⟩ = some (.int .i64 (k : Int))) :
    PredOn 79 #[.pointer (some ⟨b, 0, none⟩), .pointer (some ⟨q, 0, none⟩)] (fun z => bt W k z.toNat) out w := by
  intro V z hb hz
  obtain ⟨v, hv, rfl⟩ := ho z hz
  obtain ⟨c0, c1⟩ := held_at k0 k1 hb
  have cq := (hb.cell (p := ⟨q, 0, none⟩) (World.block_lt_of_cell? _ _ kq)).trans kq
  have h := h.rowAt hb (Nat.le_refl _)
  have HC := Lib.hid (fun (t : Bool) (ht : bt W k v = t) W' hr => beatsW_any A c W k v t ht W' hT hr hk hv)
  simp only [Int.toNat_natCast]
  clear hz ho kq k0 k1
  generalize ht : bt W k v = t at *
  clear ht
  go_enter Try.func79, Try.ntmps79
  go_wp2_with fail
  refine (HC.out t rfl _ h).mono ?_
  rintro e w' ⟨rfl, hbq⟩
  go_wp2
  go_ret
  exact ⟨rfl, hbq⟩
set_option maxHeartbeats 1600000 in
theorem iFullWay_any (A : Option Addr) (c : Nat) (s : Int) (zs : List Int) (w : World) (h : Row w w.heap.size A (ints zs)) (hl : zs.length ≤ 1099511627776) :
    Calls Try.prog 42 #[.agg #[.int .i64 s, .slice A zs.length c]] w (NewInts w 3 (rFullWay s zs)) := by
  cases ho : okB s zs with
  | false =>
    have N : Hid (rFullWay s zs = []) := Lib.hid (by unfold rFullWay; rw [ho]; rfl)
    have HO := Lib.hid ho
    clear ho
    go_enter Try.func42, Try.ntmps42
    go_wp2_with fail
    refine (iTourOk_any A c s zs _ (h.rowAt (by go_grown) (Nat.le_refl _)) hl).mono ?_
    rw [HO.out]
    rintro e w1 ⟨rfl, hb⟩
    obtain ⟨k0, k1, hbw, hsz⟩ := box1 hb
    clear hb
    go_wp2
    go_ret
    exact newInts_none _ N.out hbw
  | true =>
    obtain ⟨W, rfl, rfl, hT⟩ := ok_tour ho
    have R : Hid (rFullWay (W.length : Int) (casts W) = (fwL W W.length)) := Lib.hid (by unfold rFullWay; rw [ho, toW_casts]; rfl)
    have g1 := hT.h1
    have g8 := hT.h8
    rw [casts_length]
    rw [R.out]
    clear R
    clear ho hl
    go_enter Try.func42, Try.ntmps42
    go_wp2_with fail
    refine (iTourOkW A c W _ hT (h.rowAt (by go_grown) (Nat.le_refl _))).mono ?_
    rintro e w1 ⟨rfl, hb⟩
    obtain ⟨k0, k1, hbw, hsz⟩ := box1 hb
    have h := h.rowAt hbw (Nat.le_refl _)
    clear hb
    go_wp2
    go_loopw [3, 11] (fun v i wr => ∃ (k : Nat) (B : Option Addr) (d : Nat), k ≤ W.length ∧ i = .int .i64 (k : Int) ∧ v = .slice B k d ∧ Own wr w1.heap.size wr.heap.size 3 B d (ints (fwL W k)) ∧ Below w1.heap.size w1 wr) (fun _ i _ => W.length - (intOf i).toNat)
    case atStart => exact ⟨0, none, 0, Nat.zero_le _, rfl, rfl, Own.nil _ _ _ _, Below.refl _ _⟩
    case round =>
      obtain ⟨k, B, d, hk, rfl, rfl, ho, hb⟩ := hrel
      have HO := Lib.hid ho
      clear ho
      obtain ⟨c0, c1⟩ := held_at k0 k1 hb
      by_cases hlt : k < W.length
      · have hkl := fwL_length W k
        have hpl := posW_le W k (fwL W k)
        rw [hkl] at hpl
        have HF : Hid (fwL W (k + 1) = insAt (fwL W k) (posW W k (fwL W k)) (k : Int)) := Lib.hid rfl
        have HM := Lib.hid (fun z hz => (by obtain ⟨v, hv, e⟩ := fwL_mem W k z hz; exact ⟨v, by omega, e⟩ : ∃ v : Nat, v < W.length ∧ z = (v : Int)))
        have HI : Hid (idxOf (fun z => bt W k z.toNat) (fwL W k) = if posW W k (fwL W k) < k then (posW W k (fwL W k) : Int) else -1) := Lib.hid (by unfold idxOf; rw [hkl]; rfl)
        have HKL := Lib.hid hkl
        clear hkl
        have hz1 := hb.size
        have d0 : ∀ o, (wr.alloc o).cell? ⟨w.heap.size, 0, none⟩ = some (.int .i64 (W.length : Int)) := fun o => (World.cell?_alloc_lt wr o _ (World.block_lt_of_cell? _ _ c0)).trans c0
        have d1 : ∀ o, (wr.alloc o).cell? ⟨w.heap.size, 1, none⟩ = some (.slice A W.length c) := fun o => (World.cell?_alloc_lt wr o _ (World.block_lt_of_cell? _ _ c1)).trans c1
        go_wp2_with fail
        have hba : Below wr.heap.size wr (wr.alloc (.cells #[.int .i64 (k : Int)] 3)) := by go_grown
        have hIX := indexFunc_any 79 #[.pointer (some ⟨w.heap.size, 0, none⟩), .pointer (some ⟨wr.heap.size, 0, none⟩)] (enters_of Try.func79 (by kernel_rfl) rfl) B d (fwL W k) _ (wr.alloc (.cells #[.int .i64 (k : Int)] 3))
          (fw_pred A c W k (fwL W k) _ hT (h.rowAt (below_trans hb hba) (Nat.le_refl _)) hlt HM.out w.heap.size wr.heap.size (d0 _) (d1 _) (by go_simp)) ((HO.out.row.below hba (Nat.le_refl _)).mono (by simp)) (by rw [HKL.out]; omega)
        rw [HKL.out, HI.out] at hIX
        have HIX := Lib.hid hIX
        clear hIX
        refine HIX.out.mono ?_
        rintro e wi ⟨rfl, hbi⟩
        have hbX := below_trans hba hbi
        have cq := (hbi.cell (p := ⟨wr.heap.size, 0, none⟩) (by simp)).trans (show (wr.alloc (.cells #[.int .i64 (k : Int)] 3)).cell? ⟨wr.heap.size, 0, none⟩ = some (.int .i64 (k : Int)) by go_simp)
        have hb2 := below_trans hb hbX
        have hz2 := hb2.size
        have HO2 := Lib.hid ((HO.out.below hbX (Nat.le_refl _)).mono (Nat.le_refl _) hbX.size)
        have HIN := Lib.hid (fun (i : Nat) (hi : i ≤ k) => (by
          have hx := insert_any B d (fwL W k) (k : Int) i wi.heap.size w1.heap.size wi.heap.size (wi.alloc (.cells #[.int .i64 (k : Int)] 3)) (HO2.out.alloc (Nat.le_refl _) _) (by rw [HKL.out]; exact hi) (heap_alloc_new wi _) (.inr (Nat.le_refl _)) (by simp) (by simp; omega) (by rw [HKL.out]; omega)
          rw [HKL.out] at hx
          exact hx :
          Calls Try.prog 81 #[.slice B k d, .int .i64 (i : Int), .slice (some ⟨wi.heap.size, 0, none⟩) 1 1] (wi.alloc (.cells #[.int .i64 (k : Int)] 3)) (Inserted (wi.alloc (.cells #[.int .i64 (k : Int)] 3)) w1.heap.size wi.heap.size (fwL W k) i (k : Int))))
        have hbI : Below w1.heap.size w1 (wi.alloc (.cells #[.int .i64 (k : Int)] 3)) := hb2.alloc hz2 _
        clear d0 d1 hba hbi hbX c0 c1 HIX
        generalize hpw : posW W k (fwL W k) = p at *
        have HPW := Lib.hid hpw
        clear hpw
        by_cases hp : p < k
        · rw [if_pos hp]
          go_wp2_with fail
          refine (HIN.out p (by omega)).mono ?_
          rintro e w5 ⟨B5, d5, rfl, ho5, hon5⟩
          rw [HKL.out]
          rw [← HF.out] at ho5
          have HO5 := Lib.hid ho5
          have hb5 := below_only hbI hon5 (Nat.le_refl _) hbI.size
          clear ho5 hon5
          go_wp2
          go_roundw
          case rel => exact ⟨k + 1, B5, d5, by omega, by go_num, rfl, HO5.out, hb5⟩
          case measure => simp [intOf]; omega
        · rw [if_neg hp]
          obtain rfl : p = k := by omega
          go_wp2_with fail
          refine (HIN.out p (Nat.le_refl _)).mono ?_
          rintro e w5 ⟨B5, d5, rfl, ho5, hon5⟩
          rw [HKL.out]
          rw [← HF.out] at ho5
          have HO5 := Lib.hid ho5
          have hb5 := below_only hbI hon5 (Nat.le_refl _) hbI.size
          clear ho5 hon5
          go_wp2
          go_roundw
          case rel => exact ⟨p + 1, B5, d5, by omega, by go_num, rfl, HO5.out, hb5⟩
          case measure => simp [intOf]; omega
      · obtain rfl : k = W.length := by omega
        have HKL := Lib.hid (fwL_length W W.length)
        have hz := hbw.size
        go_wp2
        go_ret
        exact ⟨B, d, ret_slice HKL.out.symm, HO.out.mono hz (Nat.le_refl _), below_trans hbw hb⟩
end Go.Proofs.Ytkdfjkocfejfjaa
