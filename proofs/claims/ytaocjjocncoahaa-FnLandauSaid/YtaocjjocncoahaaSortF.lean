/- Sorting by a comparison (at most twelve elements): insertion sort, stableCmpFunc, SortStableFunc, walked. -/
import Derived.Test.YtaocjjocncoahaaTourOf
import Derived.Test.YtaocjjocncoahaaIsT
import Derived.RegionTactic
import Derived.Deep.RegionHeld3
namespace Go.Proofs.Ytaocjjocncoahaa
open Go.RowKit

theorem set_getD (L : List Nat) (j a p : Nat) (hj : j < L.length) : (L.set j a).getD p 0 = if p = j then a else L.getD p 0 := by
  by_cases e : p = j
  · subst e
    rw [if_pos rfl, getD_lt _ _ _ (by simpa using hj)]
    simp
  · rw [if_neg e]
    simp only [List.getD]
    rw [List.getElem?_set_ne (fun h => e h.symm)]
def swapL (L : List Nat) (m : Nat) : List Nat := (L.set (m + 1) (L.getD m 0)).set m (L.getD (m + 1) 0)
theorem swapL_length (L : List Nat) (m : Nat) : (swapL L m).length = L.length := by simp [swapL]
theorem swapL_getD (L : List Nat) (m p : Nat) (h : m + 1 < L.length) : (swapL L m).getD p 0 = if p = m then L.getD (m + 1) 0 else if p = m + 1 then L.getD m 0 else L.getD p 0 := by
  unfold swapL
  rw [set_getD _ _ _ _ (by simp; omega)]
  split
  · rfl
  · rw [set_getD _ _ _ _ h]
theorem swapL_perm (L : List Nat) (m : Nat) (h : m + 1 < L.length) : (swapL L m).Perm L := by
  unfold swapL
  rw [getD_lt _ _ _ h, getD_lt _ _ _ (show m < L.length by omega)]
  exact List.set_set_perm h (by omega)
def AscTo (κ : Nat → Int) (L : List Nat) (i : Nat) : Prop := ∀ p q, p < q → q < i → κ (L.getD p 0) ≤ κ (L.getD q 0)
structure Ins (κ : Nat → Int) (i j : Nat) (L : List Nat) : Prop where
  jle : j ≤ i
  ilt : i < L.length
  asc : ∀ p q, p < q → q ≤ i → p ≠ j → q ≠ j → κ (L.getD p 0) ≤ κ (L.getD q 0)
  up : ∀ q, j < q → q ≤ i → κ (L.getD j 0) ≤ κ (L.getD q 0)
theorem Ins.start {κ : Nat → Int} {L : List Nat} {i : Nat} (h : AscTo κ L i) (hi : i < L.length) : Ins κ i i L :=
  ⟨Nat.le_refl _, hi, fun p q h1 h2 h3 h4 => h p q h1 (by omega), fun q h1 h2 => by omega⟩
theorem Ins.stop {κ : Nat → Int} {L : List Nat} {i j : Nat} (h : Ins κ i j L) (hs : j = 0 ∨ κ (L.getD (j - 1) 0) ≤ κ (L.getD j 0)) : AscTo κ L (i + 1) := fun p q h1 h2 => by
  by_cases ep : p = j
  · subst ep; exact h.up q h1 (by omega)
  · by_cases eq : q = j
    · subst eq
      rcases hs with hs | hs
      · omega
      · by_cases e : p = q - 1
        · subst e; exact hs
        · exact Int.le_trans (h.asc p (q - 1) (by omega) (by omega) ep (by omega)) hs
    · exact h.asc p q h1 (by omega) ep eq
theorem Ins.swap {κ : Nat → Int} {L : List Nat} {i m : Nat} (h : Ins κ i (m + 1) L) (hs : κ (L.getD (m + 1) 0) < κ (L.getD m 0)) : Ins κ i m (swapL L m) := by
  have hj := h.jle
  have hi := h.ilt
  have hm : m + 1 < L.length := by omega
  refine ⟨by omega, by rw [swapL_length]; exact hi, fun p q h1 h2 h3 h4 => ?_, fun q h1 h2 => ?_⟩
  · rw [swapL_getD _ _ _ hm, swapL_getD _ _ _ hm, if_neg h3, if_neg h4]
    by_cases ep : p = m + 1
    · rw [if_pos ep, if_neg (by omega)]
      exact h.asc m q (by omega) h2 (by omega) (by omega)
    · rw [if_neg ep]
      by_cases eq : q = m + 1
      · rw [if_pos eq]
        exact h.asc p m (by omega) (by omega) ep (by omega)
      · rw [if_neg eq]
        exact h.asc p q h1 h2 ep eq
  · rw [swapL_getD _ _ _ hm, swapL_getD _ _ _ hm, if_pos rfl, if_neg (show ¬ q = m by omega)]
    by_cases eq : q = m + 1
    · rw [if_pos eq]; omega
    · rw [if_neg eq]
      exact h.up q (by omega) h2
/-- The comparison's word: below nothing where the key is smaller; nothing that lay below m is turned. -/
def PredCmp (g : Nat) (lb : Array Value) (f : Nat → Nat → Int) (m n : Nat) (w : World) : Prop :=
  ∀ (W : World) (x y : Nat), Below m w W → x < n → y < n → Calls Try.prog g (#[.int .i64 (x : Int), .int .i64 (y : Int)] ++ lb) W fun e w' => e = .returned (.int .i64 (f x y)) ∧ Below W.heap.size W w'
theorem sf_next {wr w' wq : World} {g a b : Nat} {u v : Value} (h : Below wr.heap.size wr w' ∧ w'.cell? ⟨g, a, none⟩ = some u ∧ w'.cell? ⟨g, b, none⟩ = some v) (hq : Below w'.heap.size w' wq) :
    Below wr.heap.size wr wq ∧ wq.cell? ⟨g, a, none⟩ = some u ∧ wq.cell? ⟨g, b, none⟩ = some v := by
  obtain ⟨h1, h2, h3⟩ := h
  have l1 := World.block_lt_of_cell? _ _ h2
  exact ⟨below_trans h1 hq, (hq.cell (p := ⟨g, a, none⟩) l1).trans h2, (hq.cell (p := ⟨g, b, none⟩) l1).trans h3⟩
theorem perm_lt {L os : List Nat} {n : Nat} (h : L.Perm os) (hos : ∀ x ∈ os, x < n) {k : Nat} (hk : k < L.length) : L[k] < n := hos _ (h.mem_iff.1 (List.getElem_mem hk))
set_option maxHeartbeats 1600000 in
theorem insSort_any (g : Nat) (lb : Array Value) (eg : ∀ args w, (callFunc g args).run Try.prog w = .ok (.enter g args) w) (f : Nat → Nat → Int) (κ : Nat → Int) (m n ga c lo hi : Nat) (os : List Nat) (w : World)
    (hp : PredCmp g lb f m n w) (hk : ∀ x y, x < n → y < n → (f x y < 0 ↔ κ x < κ y)) (hos : ∀ x ∈ os, x < n) (h : Own w lo hi 3 (some ⟨ga, 0, none⟩) c (ints (casts os))) (hm : m ≤ lo) (hhi : hi ≤ w.heap.size) (h1 : 1 ≤ os.length) (h8 : os.length ≤ 12) :
    Calls Try.prog 100 #[.slice (some ⟨ga, 0, none⟩) os.length c, .int .i64 0, .int .i64 (os.length : Int), .func (.func g) #[] lb] w fun e w' =>
      e = .returned (.tuple #[]) ∧ ∃ L : List Nat, L.Perm os ∧ AscTo κ L os.length ∧ Own w' lo hi 3 (some ⟨ga, 0, none⟩) c (ints (casts L)) ∧ Only lo hi w w' := by
  have HP := Lib.hid hp
  have HK := Lib.hid hk
  have HOS := Lib.hid hos
  have hgl : lo ≤ ga ∧ ga < hi := by
    obtain ⟨g', e, a, b, _⟩ := h.int (k := 0) (by rw [casts_length]; omega)
    simp only [Option.some.injEq, Addr.mk.injEq, and_true] at e
    subst e
    exact ⟨a, b⟩
  obtain ⟨hg1, hg2⟩ := hgl
  clear hp hk hos
  go_enter Try.func100, Try.ntmps100
  go_wp2
  go_loopw [8] (fun v wr => ∃ (i : Nat) (L : List Nat), 1 ≤ i ∧ i ≤ os.length ∧ v = .int .i64 (i : Int) ∧ Hid (L.Perm os ∧ AscTo κ L i) ∧ Own wr lo hi 3 (some ⟨ga, 0, none⟩) c (ints (casts L)) ∧ Only lo hi w wr) (fun v _ => os.length - (intOf v).toNat)
  case atStart => exact ⟨1, os, Nat.le_refl _, h1, rfl, Lib.hid ⟨List.Perm.refl _, fun p q h1 h2 => by omega⟩, h, Only.refl _ _ _⟩
  case round =>
    clear h
    obtain ⟨i, L, hi1, hil, rfl, HL, ho, hon⟩ := hrel
    by_cases hlt : i < os.length
    · have HI := Lib.hid (Ins.start HL.out.2 (show i < L.length by rw [HL.out.1.length_eq]; exact hlt))
      have HPm := Lib.hid HL.out.1
      have HO := Lib.hid ho
      clear HL ho
      go_wp2
      go_loopw [9] (fun v wq => ∃ (j : Nat) (L' : List Nat), v = .int .i64 (j : Int) ∧ j ≤ i ∧ Hid (Ins κ i j L') ∧ Hid (L'.Perm os) ∧ Own wq lo hi 3 (some ⟨ga, 0, none⟩) c (ints (casts L')) ∧ Only lo hi w wq) (fun v _ => (intOf v).toNat)
      case atStart => exact ⟨i, L, rfl, Nat.le_refl _, HI, HPm, HO.out, hon⟩
      case round =>
        clear HI HPm HO hon
        obtain ⟨j, L, rfl, hji, HI, HPm, ho, hon⟩ := hrel
        have hll := HPm.out.length_eq
        have HLL := Lib.hid hll
        by_cases j0 : 0 < j
        · obtain ⟨p, rfl⟩ : ∃ p, j = p + 1 := ⟨j - 1, by omega⟩
          have hp1 : p + 1 < L.length := by omega
          have hp0 : p < L.length := by omega
          have hSW := swapL_perm L p hp1
          obtain ⟨g', e, _, _, x0, f0⟩ := ho.nat hp1
          simp only [Option.some.injEq, Addr.mk.injEq, and_true] at e
          subst e
          obtain ⟨g', e, _, _, y0, f1⟩ := ho.nat hp0
          simp only [Option.some.injEq, Addr.mk.injEq, and_true] at e
          subst e
          have HW2 := Lib.hid (fun (W' : World) (hW : Own W' lo hi 3 (some ⟨ga, 0, none⟩) c (ints (casts L))) => (by
            have ho2 := (hW.set (p + 1) (.int .i64 (L[p] : Nat))).set p (.int .i64 (L[p + 1] : Nat))
            rw [ints_casts_set, ints_casts_set] at ho2
            have ho3 := (hW.set p (.int .i64 (L[p + 1] : Nat))).set (p + 1) (.int .i64 (L[p] : Nat))
            rw [ints_casts_set, ints_casts_set] at ho3
            have hsc : (L.set p L[p + 1]).set (p + 1) L[p] = (L.set (p + 1) L[p]).set p L[p + 1] := List.set_comm _ _ (by omega)
            rw [hsc] at ho3
            have hsw : (L.set (p + 1) L[p]).set p L[p + 1] = swapL L p := by unfold swapL; rw [getD_lt _ _ _ hp1, getD_lt _ _ _ hp0]
            rw [hsw] at ho2 ho3
            exact ⟨ho2, ho3⟩ :
            Own ((W'.setCell ⟨ga, p + 1, none⟩ (.int .i64 (L[p] : Nat))).setCell ⟨ga, p, none⟩ (.int .i64 (L[p + 1] : Nat))) lo hi 3 (some ⟨ga, 0, none⟩) c (ints (casts (swapL L p))) ∧
            Own ((W'.setCell ⟨ga, p, none⟩ (.int .i64 (L[p + 1] : Nat))).setCell ⟨ga, p + 1, none⟩ (.int .i64 (L[p] : Nat))) lo hi 3 (some ⟨ga, 0, none⟩) c (ints (casts (swapL L p)))))
          have hx := perm_lt HPm.out HOS.out hp1
          have hy := perm_lt HPm.out HOS.out hp0
          have HKK := Lib.hid (HK.out L[p + 1] L[p] hx hy)
          have HXD := Lib.hid (getD_lt L (p + 1) 0 hp1)
          have HYD := Lib.hid (getD_lt L p 0 hp0)
          have hmw : Below m w wr := hon.below hm (by omega)
          have HC := Lib.hid (fun W' (hW : Below wr.heap.size wr W') => HP.out W' L[p + 1] L[p] (hmw.trans (hW.mono (by have := hon.size; omega))) hx hy)
          have HSW := Lib.hid hSW
          have HO := Lib.hid ho
          have hzs := hon.size
          clear ho hSW hll hx hy hmw
          generalize L[p + 1] = x at *
          generalize L[p] = y at *
          have t1 : ((p : Int) + 1).toNat = p + 1 := by omega
          have t2 : ((p : Int) + 1 - 1).toNat = p := by omega
          have hv : Below wr.heap.size wr wr := Below.refl _ _
          have hgw : ga < wr.heap.size := by omega
          have b1 : (0 : Int) ≤ (p : Int) := by omega
          have b2 : (p : Int) < (os.length : Int) := by omega
          have b3 : (0 : Int) ≤ (p : Int) + 1 := by omega
          have b4 : (p : Int) + 1 < (os.length : Int) := by omega
          have b5 : IntKind.i64.wrap (p : Int) = (p : Int) := by rw [IntKind.wrap_i64]; omega
          rw [show ((p + 1 : Nat) : Int) = (p : Int) + 1 by omega]
          by_cases hf : f x y < 0
          · have HN := Lib.hid (HI.out.swap (by rw [HXD.out, HYD.out]; exact HKK.out.1 hf))
            go_wp2
            go_region_held3 (fun w' => Below wr.heap.size wr w' ∧ w'.cell? ⟨ga, p + 1, none⟩ = some (.int .i64 (x : Int)) ∧ w'.cell? ⟨ga, p, none⟩ = some (.int .i64 (y : Int)))
              (first | exact ⟨hv, x0, y0⟩ | exact ⟨hv.drew, x0, y0⟩)
              ((go_at_fn g; refine (HC.out _ (by first | exact hv | exact hv.drew)).mono ?_; rintro e wq ⟨rfl, hbq⟩; obtain ⟨hv, x0, y0⟩ : Below wr.heap.size wr wq ∧ wq.cell? ⟨ga, p + 1, none⟩ = some (.int .i64 (x : Int)) ∧ wq.cell? ⟨ga, p, none⟩ = some (.int .i64 (y : Int)) := (by first | exact sf_next ⟨hv, x0, y0⟩ hbq | exact sf_next ⟨hv.drew, x0, y0⟩ hbq)))
            have z0 := (hv.frozen (p := ⟨ga, p + 1, none⟩) hgw).trans f0
            have z1 := (hv.frozen (p := ⟨ga, p, none⟩) hgw).trans f1
            have HOV := Lib.hid (HO.out.below hv (by omega))
            have HOL := Lib.hid (hon.trans (Only.of_below hv))
            clear hv
            go_wp2
            go_region
            all_goals
              go_wp2
              go_roundw
              case rel => exact ⟨p, swapL L p, by first | rfl | go_num, by omega, HN, Lib.hid (HSW.out.trans HPm.out), (by first | exact (HW2.out _ HOV.out).1 | exact (HW2.out _ HOV.out).2 | exact (HW2.out _ HOV.out).1.drew | exact (HW2.out _ HOV.out).2.drew), (by first | exact (HOL.out.setCell (p := ⟨ga, p + 1, none⟩) hg1 hg2 _).setCell (p := ⟨ga, p, none⟩) hg1 hg2 _ | exact (HOL.out.setCell (p := ⟨ga, p, none⟩) hg1 hg2 _).setCell (p := ⟨ga, p + 1, none⟩) hg1 hg2 _ | exact ((HOL.out.setCell (p := ⟨ga, p + 1, none⟩) hg1 hg2 _).setCell (p := ⟨ga, p, none⟩) hg1 hg2 _).drew | exact ((HOL.out.setCell (p := ⟨ga, p, none⟩) hg1 hg2 _).setCell (p := ⟨ga, p + 1, none⟩) hg1 hg2 _).drew)⟩
              case measure => simp [intOf]
          · have HS := Lib.hid (HI.out.stop (.inr (by rw [Nat.add_sub_cancel, HXD.out, HYD.out]; have h9 := HKK.out; omega)))
            go_wp2
            go_region_held3 (fun w' => Below wr.heap.size wr w' ∧ w'.cell? ⟨ga, p + 1, none⟩ = some (.int .i64 (x : Int)) ∧ w'.cell? ⟨ga, p, none⟩ = some (.int .i64 (y : Int)))
              (first | exact ⟨hv, x0, y0⟩ | exact ⟨hv.drew, x0, y0⟩)
              ((go_at_fn g; refine (HC.out _ (by first | exact hv | exact hv.drew)).mono ?_; rintro e wq ⟨rfl, hbq⟩; obtain ⟨hv, x0, y0⟩ : Below wr.heap.size wr wq ∧ wq.cell? ⟨ga, p + 1, none⟩ = some (.int .i64 (x : Int)) ∧ wq.cell? ⟨ga, p, none⟩ = some (.int .i64 (y : Int)) := (by first | exact sf_next ⟨hv, x0, y0⟩ hbq | exact sf_next ⟨hv.drew, x0, y0⟩ hbq)))
            have HOV := Lib.hid (HO.out.below hv (by omega))
            have HOL := Lib.hid (hon.trans (Only.of_below hv))
            clear hv
            go_wp2
            go_roundw
            case rel => exact ⟨i + 1, L, by omega, by omega, by go_num, Lib.hid ⟨HPm.out, HS.out⟩, HOV.out, HOL.out⟩
            case measure => simp [intOf]; omega
        · obtain rfl : j = 0 := by omega
          have HS := Lib.hid (HI.out.stop (.inl rfl))
          have HO := Lib.hid ho
          clear ho hll
          have hd0 : decide ((0 : Int) < 0) = false := rfl
          go_wp2
          go_quiet (fail)
          go_wp2
          go_roundw
          case rel => exact ⟨i + 1, L, by omega, by omega, by go_num, Lib.hid ⟨HPm.out, HS.out⟩, HO.out, hon.drewN _⟩
          case measure => simp [intOf]; omega
    · obtain rfl : i = os.length := by omega
      have HO := Lib.hid ho
      clear ho
      go_wp2
      go_end0
      exact ⟨rfl, L, HL.out.1, HL.out.2, HO.out, hon⟩
end Go.Proofs.Ytaocjjocncoahaa
