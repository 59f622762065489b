/- Orders: isOrder, l02Perm, OrderOk, walked. -/
import Derived.Test.YtfjofnmdmdejpaaTri
namespace Go.Proofs.Ytfjofnmdmdejpaa
open Go.RowKit

/-- Number i of a list lies in the range and has not stood ahead. -/
def permAt (zs : List Int) (i : Nat) : Bool := (decide (0 ≤ zs.getD i 0) && decide (zs.getD i 0 ≤ (zs.length : Int) - 1)) && !((zs.take i).any fun y => zs.getD i 0 == y)
/-- The list holds each number from 0 up to its length once. -/
def orderB (zs : List Int) : Bool := (List.range zs.length).all (permAt zs)
theorem permAt_eq (zs : List Int) (i : Nat) (h : i < zs.length) : permAt zs i = ((decide (0 ≤ zs[i]) && decide (zs[i] ≤ (zs.length : Int) - 1)) && !((zs.take i).any fun y => zs[i] == y)) := by unfold permAt; rw [getD_lt _ _ _ h]
theorem orderB_no (zs : List Int) (k : Nat) (hk : k < zs.length) (h : permAt zs k = false) : orderB zs = false := by
  unfold orderB
  rw [List.all_eq_false]
  exact ⟨k, by rwa [List.mem_range], by simp [h]⟩
theorem orderB_yes (zs : List Int) (h : ∀ j, j < zs.length → permAt zs j = true) : orderB zs = true := by
  unfold orderB
  rw [List.all_eq_true]
  intro j hj
  exact h j (by rwa [List.mem_range] at hj)
theorem Row.take {w : World} {B : Nat} {A : Option Addr} {vs : List Value} (h : Row w B A vs) (k : Nat) : Row w B A (vs.take k) := fun hn => by
  obtain ⟨b, off, e, hb, hc⟩ := h (by rw [List.length_take] at hn; omega)
  refine ⟨b, off, e, hb, fun i u hu => hc i u ?_⟩
  rw [List.getElem?_take] at hu
  split at hu
  · exact hu
  · cases hu
theorem Row.intTake {w : World} {B : Nat} {A : Option Addr} {zs : List Int} (h : Row w B A (ints zs)) (k : Nat) : Row w B A (ints (zs.take k)) := by
  have := h.take k
  unfold ints at *
  rwa [← List.map_take] at this

theorem isOrder_any (A : Option Addr) (c : Nat) (zs : List Int) (w : World) (h : Row w w.heap.size A (ints zs)) (hl : zs.length ≤ 1099511627776) (hc : zs.length ≤ c) :
    Calls Try.prog 91 #[.slice A zs.length c] w fun e w' => e = .returned (.bool (orderB zs)) ∧ w = w' := by
  go_enter Try.func91, Try.ntmps91
  go_wp2
  go_loop [7] (fun i => ∃ k : Nat, k ≤ zs.length ∧ i = .int .i64 k ∧ Hid (∀ j, j < k → permAt zs j = true)) (fun i => zs.length - (intOf i).toNat)
  case atStart => exact ⟨0, Nat.zero_le _, rfl, Lib.hid (fun j hj => by omega)⟩
  case round =>
    obtain ⟨k, hk, rfl, HN⟩ := hrel
    by_cases hlt : k < zs.length
    · obtain ⟨b, off, rfl, hbB, hcc⟩ := h.int hlt
      have E := Lib.hid (permAt_eq zs k hlt)
      have hct := contains_any (some ⟨b, off, none⟩) c (zs.take k) zs[k] w (h.intTake k) (by rw [List.length_take]; omega)
      rw [List.length_take, Nat.min_eq_left (Nat.le_of_lt hlt)] at hct
      have HC := Lib.hid hct
      clear hct h
      generalize zs[k] = z at *
      by_cases hz : 0 ≤ z ∧ z ≤ (zs.length : Int) - 1
      · obtain ⟨z1, z2⟩ := hz
        cases hq : (zs.take k).any fun y => z == y with
        | true =>
          have N := Lib.hid (orderB_no zs k hlt (by rw [E.out, hq]; simp))
          have HQ := Lib.hid hq
          clear hq
          go_wp2_with (first
            | (go_at_call 71; refine (within_yes _ _ _ _ z1 z2).mono ?_; rintro e w' ⟨rfl, rfl⟩)
            | (go_at_call 104; refine HC.out.mono ?_; rw [HQ.out]; rintro e w' ⟨rfl, rfl⟩))
          go_ret
          exact ⟨ret_bool N.out.symm, rfl⟩
        | false =>
          have N := Lib.hid (E.out.trans (by rw [hq, decide_eq_true z1, decide_eq_true z2]; rfl) : permAt zs k = true)
          have HQ := Lib.hid hq
          clear hq
          go_wp2_with (first
            | (go_at_call 71; refine (within_yes _ _ _ _ z1 z2).mono ?_; rintro e w' ⟨rfl, rfl⟩)
            | (go_at_call 104; refine HC.out.mono ?_; rw [HQ.out]; rintro e w' ⟨rfl, rfl⟩))
          go_round
          case rel =>
            refine ⟨k + 1, by omega, by go_num, Lib.hid (fun j hj => ?_)⟩
            by_cases e : j = k
            · subst e; exact N.out
            · exact HN.out j (by omega)
          case measure => simp [intOf]; omega
      · have hz' : z < 0 ∨ (zs.length : Int) - 1 < z := by omega
        have N := Lib.hid (orderB_no zs k hlt (by
          rw [E.out]
          have : (decide (0 ≤ z) && decide (z ≤ (zs.length : Int) - 1)) = false := by
            rcases hz' with e | e
            · rw [decide_eq_false (by omega)]; rfl
            · rw [decide_eq_false (show ¬ z ≤ (zs.length : Int) - 1 by omega), Bool.and_false]
          rw [this]; rfl))
        clear hz
        go_wp2_with (go_at_call 71; refine (within_no _ _ _ _ hz').mono ?_; rintro e w' ⟨rfl, rfl⟩)
        go_ret
        exact ⟨ret_bool N.out.symm, rfl⟩
    · obtain rfl : k = zs.length := by omega
      go_wp2
      go_ret
      exact ⟨ret_bool (orderB_yes zs HN.out).symm, rfl⟩

def bools (bs : List Bool) : List Value := bs.map Value.bool
theorem bool_info : (Try.prog.info? 4).map (fun i => (i.zero, i.size, i.bytes)) = some (some (.bool false), 1, 1) := by kernel_rfl
/-- make([]bool, n). -/
theorem make_bools (n : Nat) (hn : n ≤ 1099511627776) (W : World) :
    (Instr.makeSlice 78 (.int .i64 (n : Int)) (.int .i64 (n : Int))).run Try.prog W = .ok (.slice (some ⟨W.heap.size, 0, none⟩) n n) (W.alloc (.cells (madeCells #[.bool false] n) 4)) := by
  obtain ⟨i0, hi, hz0, hz1, hz2⟩ := info_parts bool_info
  have h := run_make (P := Try.prog) W 78 4 i0 _ Try.underlying78 hi hz0 .i64 .i64 (n : Int) (n : Int) (by omega) (by omega) (by rw [hz2]; omega) (by omega)
  rw [hz1] at h
  simpa [Value.cells] using h
theorem own_bools (w : World) (lo n : Nat) (hlo : lo ≤ w.heap.size) (hn : n ≤ 1099511627776) :
    Own (w.alloc (.cells (madeCells #[.bool false] n) 4)) lo (w.heap.size + 1) 4 (some ⟨w.heap.size, 0, none⟩) n (bools (List.replicate n false)) := by
  have h := Own.made w lo 4 (madeCells #[.bool false] n) hlo (by rw [size_madeCells]; unfold maxLen; omega)
  rw [size_madeCells, toList_madeCells_one] at h
  simpa [bools] using h
/-- Which numbers stand among the first k. -/
def seenL (zs : List Int) (k : Nat) : List Bool := (List.range zs.length).map fun (x : Nat) => (zs.take k).any fun y => (x : Int) == y
theorem seenL_length (zs : List Int) (k : Nat) : (seenL zs k).length = zs.length := by simp [seenL]
theorem seenL_zero (zs : List Int) : seenL zs 0 = List.replicate zs.length false := by
  rw [List.eq_replicate_iff]
  refine ⟨seenL_length zs 0, fun x hx => ?_⟩
  simp [seenL] at hx
  exact hx.2
theorem seenL_get (zs : List Int) (k x : Nat) (h : x < (seenL zs k).length) : (seenL zs k)[x] = (zs.take k).any fun y => (x : Int) == y := by simp [seenL]
theorem seenL_set (zs : List Int) (k x : Nat) (hk : k < zs.length) (hx : zs[k] = (x : Int)) : (seenL zs k).set x true = seenL zs (k + 1) := by
  apply List.ext_getElem
  · simp [seenL_length]
  · intro i h1 h2
    rw [List.getElem_set]
    simp only [seenL_get]
    rw [List.take_succ_eq_append_getElem hk, List.any_append, hx]
    split
    · rename_i e; subst e; simp
    · rename_i e
      have : ((i : Int) == (x : Int)) = false := by simp; omega
      simp [this]
theorem bools_set (bs : List Bool) (x : Nat) (b : Bool) : (bools bs).set x (.bool b) = bools (bs.set x b) := by unfold bools; rw [List.map_set]
theorem l02Perm_any (A : Option Addr) (c n : Nat) (zs : List Int) (w : World) (h : Row w w.heap.size A (ints zs)) (hn : n ≤ 8) (hl : zs.length ≤ 1099511627776) :
    Calls Try.prog 89 #[.int .i64 (n : Int), .slice A zs.length c] w fun e w' => e = .returned (.bool (decide (zs.length = n) && orderB zs)) ∧ Below w.heap.size w w' := by
  by_cases hlen : zs.length = n
  · subst hlen
    have e0 : ((zs.length : Int) != (zs.length : Int)) = false := by simp
    have R : Hid ((decide (zs.length = zs.length) && orderB zs) = orderB zs) := Lib.hid (by simp)
    rw [R.out]
    clear R
    have hmk := make_bools zs.length (by omega)
    go_enter Try.func89, Try.ntmps89
    go_wp2
    clear hmk
    go_loopw [16] (fun i wr => ∃ k : Nat, k ≤ zs.length ∧ i = .int .i64 k ∧ Own wr w.heap.size (w.heap.size + 1) 4 (some ⟨w.heap.size, 0, none⟩) zs.length (bools (seenL zs k)) ∧ Below w.heap.size w wr ∧ Hid (∀ j, j < k → permAt zs j = true)) (fun i _ => zs.length - (intOf i).toNat)
    case atStart => exact ⟨0, Nat.zero_le _, rfl, by rw [seenL_zero]; exact own_bools w w.heap.size zs.length (Nat.le_refl _) (by omega), (Below.refl _ _).alloc (Nat.le_refl _) _, Lib.hid (fun j hj => by omega)⟩
    case round =>
      obtain ⟨k, hk, rfl, ho, hb, HN⟩ := hrel
      have HO := Lib.hid ho
      clear ho
      by_cases hlt : k < zs.length
      · obtain ⟨b, off, rfl, hbB, hcc⟩ := (h.below hb (Nat.le_refl _)).int hlt
        have E := Lib.hid (permAt_eq zs k hlt)
        clear h
        generalize hz0 : zs[k] = z at *
        have HZ := Lib.hid hz0
        clear hz0
        by_cases hz : 0 ≤ z ∧ z ≤ (zs.length : Int) - 1
        · obtain ⟨z1, z2⟩ := hz
          obtain ⟨x, rfl⟩ := Int.eq_ofNat_of_zero_le z1
          have hx : x < zs.length := by omega
          obtain ⟨g, hg, _, _, hcell, hfz⟩ := HO.out.at_ (k := x) (by simp [bools, seenL_length, hx])
          simp only [Option.some.injEq, Addr.mk.injEq, and_true] at hg
          subst hg
          have hv : (bools (seenL zs k))[x]'(by simp [bools, seenL_length, hx]) = .bool ((zs.take k).any fun y => (x : Int) == y) := by simp [bools, seenL_get]
          rw [hv] at hcell
          clear hv
          cases hq : (zs.take k).any fun y => (x : Int) == y with
          | true =>
            have N := Lib.hid (orderB_no zs k hlt (by rw [E.out, hq]; simp))
            rw [hq] at hcell
            clear hq
            go_wp2_with (go_at_call 68; refine (sIn_yes _ _ _ _ z1 z2).mono ?_; rintro e w' ⟨rfl, rfl⟩)
            go_ret
            exact ⟨ret_bool N.out.symm, hb⟩
          | false =>
            have N := Lib.hid (E.out.trans (by rw [hq, decide_eq_true z1, decide_eq_true z2]; rfl) : permAt zs k = true)
            rw [hq] at hcell
            have ho2 := HO.out.set x (.bool true)
            rw [bools_set, seenL_set zs k x hlt HZ.out] at ho2
            have HO2 := Lib.hid ho2
            clear hq ho2
            go_wp2_with (go_at_call 68; refine (sIn_yes _ _ _ _ z1 z2).mono ?_; rintro e w' ⟨rfl, rfl⟩)
            go_roundw
            case rel =>
              refine ⟨k + 1, by omega, by go_num, HO2.out, hb.setCell (p := ⟨w.heap.size, x, none⟩) (Nat.le_refl _) _, Lib.hid (fun j hj => ?_)⟩
              by_cases e : j = k
              · subst e; exact N.out
              · exact HN.out j (by omega)
            case measure => simp [intOf]; omega
        · have hz' : z < 0 ∨ (zs.length : Int) - 1 < z := by omega
          have N := Lib.hid (orderB_no zs k hlt (by
            rw [E.out]
            have : (decide (0 ≤ z) && decide (z ≤ (zs.length : Int) - 1)) = false := by
              rcases hz' with e | e
              · rw [decide_eq_false (by omega)]; rfl
              · rw [decide_eq_false (show ¬ z ≤ (zs.length : Int) - 1 by omega), Bool.and_false]
            rw [this]; rfl))
          clear hz
          go_wp2_with (go_at_call 68; refine (sIn_no _ _ _ _ hz').mono ?_; rintro e w' ⟨rfl, rfl⟩)
          go_ret
          exact ⟨ret_bool N.out.symm, hb⟩
      · obtain rfl : k = zs.length := by omega
        go_wp2
        go_ret
        exact ⟨ret_bool (orderB_yes zs HN.out).symm, hb⟩
  · have e0 : ((zs.length : Int) != (n : Int)) = true := by simp; omega
    have R : Hid ((decide (zs.length = n) && orderB zs) = false) := Lib.hid (by rw [decide_eq_false hlen]; rfl)
    clear hlen
    go_enter Try.func89, Try.ntmps89
    go_wp2
    go_ret
    exact ⟨ret_bool R.out.symm, Below.refl _ _⟩

/-- What both functions OrderOk answer. -/
def rOrderOk (s : Int) (zs : List Int) (os : List Int) : Bool := if okB s zs then decide (os.length = (toW zs).length) && orderB os else false
theorem iOrderOk_any (A : Option Addr) (c : Nat) (s : Int) (zs : List Int) (A' : Option Addr) (c' : Nat) (os : List Int) (w : World) (h : Row w w.heap.size A (ints zs)) (hl : zs.length ≤ 1099511627776) (h' : Row w w.heap.size A' (ints os)) (hl' : os.length ≤ 1099511627776) (hc' : os.length ≤ c') :
    Calls Try.prog 61 #[.agg #[.int .i64 s, .slice A zs.length c], .slice A' os.length c'] w fun e w' => e = .returned (.bool (rOrderOk s zs os)) ∧ Below w.heap.size w w' := by
  cases ho : okB s zs with
  | false =>
    have N : Hid (rOrderOk s zs os = (false)) := Lib.hid (by unfold rOrderOk; rw [ho]; rfl)
    have HO := Lib.hid ho
    clear ho
    go_enter Try.func61, Try.ntmps61
    go_wp2_with fail
    refine (iTourOk_any A c s zs _ (h.rowAt (by go_grown) (Nat.le_refl _)) hl).mono ?_
    rw [HO.out]
    rintro e w1 ⟨rfl, hb⟩
    obtain ⟨k0, k1, hbw, hsz⟩ := box1 hb
    clear hb
    go_wp2
    go_ret
    exact ⟨ret_bool N.out.symm, hbw⟩
  | true =>
    obtain ⟨W, rfl, rfl, hT⟩ := ok_tour ho
    have R : Hid (rOrderOk (W.length : Int) (casts W) os = (decide (os.length = W.length) && orderB os)) := Lib.hid (by unfold rOrderOk; rw [ho, toW_casts]; rfl)
    have g1 := hT.h1
    have g8 := hT.h8
    rw [casts_length]
    clear ho hl
    go_enter Try.func61, Try.ntmps61
    go_wp2_with fail
    refine (iTourOkW A c W _ hT (h.rowAt (by go_grown) (Nat.le_refl _))).mono ?_
    rintro e w1 ⟨rfl, hb⟩
    obtain ⟨k0, k1, hbw, hsz⟩ := box1 hb
    have h := h.rowAt hbw (Nat.le_refl _)
    clear hb
    have h' := h'.rowAt hbw (Nat.le_refl _)
    by_cases hlen : os.length = W.length
    · have R : Hid (rOrderOk (W.length : Int) (casts W) os = orderB os) := Lib.hid (by rw [R.out, decide_eq_true hlen]; rfl)
      have e0 : ((os.length : Int) == (W.length : Int)) = true := by simp [hlen]
      clear hlen
      go_wp2_with (go_at_call 91; refine (isOrder_any A' c' os _ h' hl' hc').mono ?_; rintro e w' ⟨rfl, rfl⟩)
      go_ret
      exact ⟨ret_bool R.out.symm, hbw⟩
    · have R : Hid (rOrderOk (W.length : Int) (casts W) os = false) := Lib.hid (by rw [R.out, decide_eq_false hlen]; rfl)
      have e0 : ((os.length : Int) == (W.length : Int)) = false := by simp; omega
      clear hlen
      go_wp2
      go_ret
      exact ⟨ret_bool R.out.symm, hbw⟩
theorem sOrderOk_any (A : Option Addr) (c : Nat) (s : Int) (zs : List Int) (A' : Option Addr) (c' : Nat) (os : List Int) (w : World) (h : Row w w.heap.size A (ints zs)) (hl : zs.length ≤ 1099511627776) (h' : Row w w.heap.size A' (ints os)) (hl' : os.length ≤ 1099511627776) (_ : os.length ≤ c') :
    Calls Try.prog 59 #[.agg #[.int .i64 s, .slice A zs.length c], .slice A' os.length c'] w fun e w' => e = .returned (.bool (rOrderOk s zs os)) ∧ Below w.heap.size w w' := by
  cases ho : okB s zs with
  | false =>
    have N : Hid (rOrderOk s zs os = (false)) := Lib.hid (by unfold rOrderOk; rw [ho]; rfl)
    have HO := Lib.hid ho
    clear ho
    go_enter Try.func59, Try.ntmps59
    go_wp2_with fail
    refine (sTourOk_any A c s zs _ (h.rowAt (by go_grown) (Nat.le_refl _)) hl).mono ?_
    rw [HO.out]
    rintro e w1 ⟨rfl, hb⟩
    obtain ⟨k0, k1, hbw, hsz⟩ := box1 hb
    clear hb
    go_wp2
    go_ret
    exact ⟨ret_bool N.out.symm, hbw⟩
  | true =>
    obtain ⟨W, rfl, rfl, hT⟩ := ok_tour ho
    have R : Hid (rOrderOk (W.length : Int) (casts W) os = (decide (os.length = W.length) && orderB os)) := Lib.hid (by unfold rOrderOk; rw [ho, toW_casts]; rfl)
    have g1 := hT.h1
    have g8 := hT.h8
    rw [casts_length]
    clear ho hl
    go_enter Try.func59, Try.ntmps59
    go_wp2_with fail
    refine (sTourOkW A c W _ hT (h.rowAt (by go_grown) (Nat.le_refl _))).mono ?_
    rintro e w1 ⟨rfl, hb⟩
    obtain ⟨k0, k1, hbw, hsz⟩ := box1 hb
    have h := h.rowAt hbw (Nat.le_refl _)
    clear hb
    have h' := h'.rowAt hbw (Nat.le_refl _)
    go_wp2_with fail
    refine (l02Perm_any A' c' W.length os _ h' g8 hl').mono ?_
    rintro e w2 ⟨rfl, hb2⟩
    go_wp2
    go_ret
    exact ⟨ret_bool R.out.symm, below_trans hbw hb2⟩
end Go.Proofs.Ytfjofnmdmdejpaa
