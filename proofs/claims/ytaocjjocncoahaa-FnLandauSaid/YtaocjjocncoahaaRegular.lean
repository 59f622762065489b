/- The reference's SequenceOf, IsRegular, walked. -/
import Derived.Test.YtaocjjocncoahaaSort
namespace Go.Proofs.Ytaocjjocncoahaa
open Go.RowKit

def rSequenceOf (s : Int) (zs : List Int) : List Int := if okB s zs then sortL (casts (scL (toW zs))) else []
theorem rSequenceOf_len (s : Int) (zs : List Int) : (rSequenceOf s zs).length ≤ 1048576 := by
  unfold rSequenceOf
  cases ho : okB s zs
  · simp
  · obtain ⟨W, rfl, rfl, hT⟩ := ok_tour ho
    have := hT.h8
    rw [if_pos rfl, sortL_length, casts_length, scL_length, toW_casts]
    omega
theorem sq_len (W : List Nat) : (sortL (casts (scL W))).length = W.length := by rw [sortL_length, casts_length, scL_length]
def regB (W : List Nat) : Bool := decide (maxL (casts (scL W)) (W.length - 1) - minL (casts (scL W)) (W.length - 1) ≤ 1)
def rIsRegular (s : Int) (zs : List Int) : Bool := if okB s zs then regB (toW zs) else false
theorem sc_bd (W : List Nat) (i : Nat) : 0 ≤ (casts (scL W)).getD i 0 ∧ (casts (scL W)).getD i 0 ≤ 8 := by
  rw [casts_getD]
  have : (scL W).getD i 0 ≤ 8 := by
    unfold scL
    by_cases h : i < W.length
    · rw [getD_lt _ _ _ (by simpa using h)]
      simp [pc_le]
    · rw [List.getD, List.getElem?_eq_none (by simpa using h)]
      simp
  omega
theorem iScoresOf_bad (A : Option Addr) (c : Nat) (s : Int) (zs : List Int) (w : World) (h : Row w w.heap.size A (ints zs)) (hl : zs.length ≤ 1099511627776) (ho' : okB s zs = false) :
    Calls Try.prog 18 #[.agg #[.int .i64 s, .slice A zs.length c]] w fun e w' => e = .returned (.slice none 0 0) ∧ Below w.heap.size w w' := by
  cases ho : okB s zs with
  | true => rw [ho'] at ho; cases ho
  | false =>
    have N : Hid (rScoresOf s zs = []) := Lib.hid (by unfold rScoresOf; rw [ho]; rfl)
    have HO := Lib.hid ho
    clear ho
    go_enter Try.func18, Try.ntmps18
    go_wp2_with fail
    refine (iTourOk_any A c s zs _ (h.rowAt (by go_grown) (Nat.le_refl _)) hl).mono ?_
    rw [HO.out]
    rintro e w1 ⟨rfl, hb⟩
    obtain ⟨k0, k1, hbw, hsz⟩ := box1 hb
    clear hb
    go_wp2
    go_ret
    exact ⟨rfl, hbw⟩
theorem iIsRegular_any (A : Option Addr) (c : Nat) (s : Int) (zs : List Int) (w : World) (h : Row w w.heap.size A (ints zs)) (hl : zs.length ≤ 1099511627776) :
    Calls Try.prog 27 #[.agg #[.int .i64 s, .slice A zs.length c]] w fun e w' => e = .returned (.bool (rIsRegular s zs)) ∧ Below w.heap.size w w' := by
  have hnil := fun (W : World) (B : Option Addr) (n d : Nat) => run_neq_slice_nil_any (P := Try.prog) W 24 3 B n d 0 0 Try.underlying24
  cases ho : okB s zs with
  | false =>
    have N : Hid (rIsRegular s zs = false) := Lib.hid (by unfold rIsRegular; rw [ho]; rfl)
    have HC := Lib.hid (fun W' hr => iScoresOf_bad A c s zs W' hr hl ho)
    clear ho
    go_enter Try.func27, Try.ntmps27
    go_wp2_with fail
    refine (HC.out _ (h.rowAt (by go_grown) (Nat.le_refl _))).mono ?_
    rintro e w1 ⟨rfl, hb⟩
    obtain ⟨k0, k1, hbw, hsz⟩ := box1 hb
    clear hb
    go_wp2
    go_ret
    exact ⟨ret_bool N.out.symm, hbw⟩
  | true =>
    obtain ⟨W, rfl, rfl, hT⟩ := ok_tour ho
    have R : Hid (rIsRegular (W.length : Int) (casts W) = regB W) := Lib.hid (by unfold rIsRegular; rw [ho, toW_casts]; rfl)
    have g1 := hT.h1
    have g8 := hT.h8
    have HE : Hid (rScoresOf (W.length : Int) (casts W) = casts (scL W)) := Lib.hid (by unfold rScoresOf; rw [ho, toW_casts]; rfl)
    have HC := Lib.hid (fun W' hr => iScoresOf_any A c (W.length : Int) (casts W) W' hr hl)
    clear ho hl
    rw [HE.out, casts_length] at HC
    rw [casts_length]
    have hll : (casts (scL W)).length = W.length := by rw [casts_length, scL_length]
    have HL := Lib.hid hll
    clear hll
    obtain ⟨i1, _, j1⟩ := maxL_in (casts (scL W)) (W.length - 1)
    obtain ⟨i2, _, j2⟩ := minL_in (casts (scL W)) (W.length - 1)
    have b1 := sc_bd W i1
    have b2 := sc_bd W i2
    rw [← j1] at b1
    rw [← j2] at b2
    clear j1 j2
    have HV : Hid (regB W = decide (maxL (casts (scL W)) (W.length - 1) - minL (casts (scL W)) (W.length - 1) ≤ 1)) := Lib.hid rfl
    go_enter Try.func27, Try.ntmps27
    go_wp2_with fail
    refine (HC.out _ (h.rowAt (by go_grown) (Nat.le_refl _))).mono ?_
    rintro e w1 ⟨C, d, rfl, hoC, hb⟩
    rw [HL.out]
    obtain ⟨k0, k1, hbw, hsz⟩ := box1 hb
    clear hb
    have h0 : 0 < (casts (scL W)).length := by rw [HL.out]; omega
    obtain ⟨g, rfl, -⟩ := hoC.int h0
    have hr := hoC.row
    have HM1 := Lib.hid (max_any (some ⟨g, 0, none⟩) d (casts (scL W)) w1 hr h0 (by rw [HL.out]; omega))
    have HM2 := Lib.hid (min_any (some ⟨g, 0, none⟩) d (casts (scL W)) w1 hr h0 (by rw [HL.out]; omega))
    rw [HL.out] at HM1 HM2
    clear h0 hoC hr
    generalize maxL (casts (scL W)) (W.length - 1) = p at *
    generalize minL (casts (scL W)) (W.length - 1) = q at *
    go_wp2_with fail
    refine HM1.out.mono ?_
    rintro e w2 ⟨rfl, rfl⟩
    go_wp2_with fail
    refine HM2.out.mono ?_
    rintro e w2 ⟨rfl, rfl⟩
    go_wp2
    go_ret
    exact ⟨ret_bool (by rw [R.out, HV.out]), hbw⟩
end Go.Proofs.Ytaocjjocncoahaa
