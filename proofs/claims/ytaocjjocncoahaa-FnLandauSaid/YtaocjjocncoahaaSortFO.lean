/- Insertion sort by a comparison, of a slice that has been cut off in front (printed by tools/sortfo.py out of XSortF). -/
import Derived.Test.YtaocjjocncoahaaSortF
namespace Go.Proofs.Ytaocjjocncoahaa
open Go.RowKit

/-- The block ga holds the numbers L from off on. -/
def OwnO (w : World) (lo hi ga off : Nat) (L : List Nat) : Prop :=
  lo ≤ ga ∧ ga < hi ∧ ∃ cur, w.heap[ga]? = some (.cells cur 3 (0, 0)) ∧ ∀ k v, L[k]? = some v → cur[off + k]? = some (.int .i64 (v : Nat))
theorem OwnO.of {w : World} {lo hi ga c : Nat} {L : List Nat} (h : Own w lo hi 3 (some ⟨ga, 0, none⟩) c (ints (casts L))) : OwnO w lo hi ga 0 L := by
  rcases h with ⟨h, _⟩ | ⟨g, cur, e, a, b, hb, h1, h2, h3, h4⟩
  · cases h
  · simp only [Option.some.injEq, Addr.mk.injEq, and_true] at e
    subst e
    refine ⟨a, b, cur, hb, fun k v hk => ?_⟩
    rw [Nat.zero_add]
    have hkl : k < L.length := (List.getElem?_eq_some_iff.1 hk).1
    have e : (cur.toList.take (ints (casts L)).length)[k]? = (ints (casts L))[k]? := by rw [h4]
    rw [List.getElem?_take_of_lt (by rw [ints_length, casts_length]; exact hkl)] at e
    rw [← Array.getElem?_toList, e]
    simp [ints, casts, hk]
theorem OwnO.keep {w w' : World} {lo hi ga off : Nat} {L : List Nat} (h : OwnO w lo hi ga off L) (hk : w'.heap[ga]? = w.heap[ga]?) : OwnO w' lo hi ga off L := by
  obtain ⟨a, b, cur, hb, hc⟩ := h
  exact ⟨a, b, cur, hk.trans hb, hc⟩
theorem OwnO.below {w w' : World} {lo hi ga off B : Nat} {L : List Nat} (h : OwnO w lo hi ga off L) (hb : Below B w w') (hB : hi ≤ B) : OwnO w' lo hi ga off L := h.keep (hb.block ga (by have := h.2.1; omega))
theorem OwnO.drew {w : World} {lo hi ga off : Nat} {L : List Nat} (h : OwnO w lo hi ga off L) : OwnO w.drew lo hi ga off L := h
theorem OwnO.alloc {w : World} {lo hi ga off : Nat} {L : List Nat} (h : OwnO w lo hi ga off L) (o : Obj) : OwnO (w.alloc o) lo hi ga off L := by
  have h2 := h
  obtain ⟨_, _, cur, hb, _⟩ := h2
  exact h.keep (Below.heap_alloc w o ga (Array.getElem?_eq_some_iff.1 hb).1)
theorem OwnO.setCell {w : World} {lo hi ga off : Nat} {L : List Nat} (h : OwnO w lo hi ga off L) {p : Addr} (hp : p.block ≠ ga) (u : Value) : OwnO (w.setCell p u) lo hi ga off L := h.keep (Below.heap_setCell w p u ga (fun e => hp e.symm))
theorem OwnO.lt {w : World} {lo hi ga off : Nat} {L : List Nat} (h : OwnO w lo hi ga off L) : ga < w.heap.size := by
  obtain ⟨_, _, cur, hb, _⟩ := h
  exact (Array.getElem?_eq_some_iff.1 hb).1
theorem OwnO.tail {w : World} {lo hi ga off : Nat} {x : Nat} {L : List Nat} (h : OwnO w lo hi ga off (x :: L)) : OwnO w lo hi ga (off + 1) L := by
  obtain ⟨a, b, cur, hb, hc⟩ := h
  refine ⟨a, b, cur, hb, fun k v hk => ?_⟩
  have := hc (k + 1) v (by simpa using hk)
  rwa [show off + 1 + k = off + (k + 1) by omega]
theorem OwnO.nat {w : World} {lo hi ga off : Nat} {L : List Nat} (h : OwnO w lo hi ga off L) {k : Nat} (hk : k < L.length) : w.cell? ⟨ga, off + k, none⟩ = some (.int .i64 (L[k] : Nat)) ∧ w.frozen? ⟨ga, off + k, none⟩ = false := by
  obtain ⟨a, b, cur, hb, hc⟩ := h
  have := hc k L[k] (List.getElem?_eq_getElem hk)
  constructor
  · simp [World.cell?, hb, this]
  · simp [World.frozen?, hb]
theorem OwnO.set {w : World} {lo hi ga off : Nat} {L : List Nat} (h : OwnO w lo hi ga off L) (k x : Nat) : OwnO (w.setCell ⟨ga, off + k, none⟩ (.int .i64 (x : Nat))) lo hi ga off (L.set k x) := by
  obtain ⟨a, b, cur, hb, hc⟩ := h
  refine ⟨a, b, cur.setIfInBounds (off + k) (.int .i64 (x : Nat)), ?_, fun j v hj => ?_⟩
  · obtain ⟨hlt, hk'⟩ := Array.getElem?_eq_some_iff.1 hb
    show (w.heap.modify ga _)[ga]? = _
    rw [Array.getElem?_eq_getElem (by rw [Array.size_modify]; exact hlt), Array.getElem_modify_self, hk']
    rfl
  · rw [Array.getElem?_setIfInBounds]
    rw [List.getElem?_set] at hj
    by_cases e : k = j
    · subst e
      have hin : off + k < cur.size := by
        by_cases hl : k < L.length
        · have := hc k L[k] (List.getElem?_eq_getElem hl)
          exact (Array.getElem?_eq_some_iff.1 this).1
        · simp [hl] at hj
      have hl : k < L.length := by
        by_cases hl : k < L.length
        · exact hl
        · simp [hl] at hj
      simp [hl] at hj
      subst hj
      simp [hin]
    · rw [if_neg e] at hj
      rw [if_neg (by omega)]
      exact hc j v hj
/-- The comparison answers f in every world in which all but the sorted block lies as it lay. -/
def PredCmpO (g : Nat) (lb : Array Value) (f : Nat → Nat → Int) (lo hi n : Nat) (w : World) : Prop :=
  ∀ (W : World) (x y : Nat), Only lo hi w W → x < n → y < n → Calls Try.prog g (#[.int .i64 (x : Int), .int .i64 (y : Int)] ++ lb) W fun e w' => e = .returned (.int .i64 (f x y)) ∧ Below W.heap.size W w'
set_option maxHeartbeats 1600000 in
theorem insSortO_any (g : Nat) (lb : Array Value) (eg : ∀ args w, (callFunc g args).run Try.prog w = .ok (.enter g args) w) (f : Nat → Nat → Int) (κ : Nat → Int) (n ga off c lo hi : Nat) (os : List Nat) (w : World)
    (hp : PredCmpO g lb f lo hi n w) (hk : ∀ x y, x < n → y < n → (f x y < 0 ↔ κ x < κ y)) (hos : ∀ x ∈ os, x < n) (h : OwnO w lo hi ga off os) (hhi : hi ≤ w.heap.size) (h1 : 1 ≤ os.length) (h8 : os.length ≤ 12) :
    Calls Try.prog 100 #[.slice (some ⟨ga, off, none⟩) os.length c, .int .i64 0, .int .i64 (os.length : Int), .func (.func g) #[] lb] w fun e w' =>
      e = .returned (.tuple #[]) ∧ ∃ L : List Nat, L.Perm os ∧ AscTo κ L os.length ∧ OwnO w' lo hi ga off L ∧ Only lo hi w w' := by
  have HP := Lib.hid hp
  have HK := Lib.hid hk
  have HOS := Lib.hid hos
  have hgl : lo ≤ ga ∧ ga < hi := ⟨h.1, h.2.1⟩
  obtain ⟨hg1, hg2⟩ := hgl
  clear hp hk hos
  go_enter Try.func100, Try.ntmps100
  go_wp2
  go_loopw [8] (fun v wr => ∃ (i : Nat) (L : List Nat), 1 ≤ i ∧ i ≤ os.length ∧ v = .int .i64 (i : Int) ∧ Hid (L.Perm os ∧ AscTo κ L i) ∧ OwnO wr lo hi ga off L ∧ Only lo hi w wr) (fun v _ => os.length - (intOf v).toNat)
  case atStart => exact ⟨1, os, Nat.le_refl _, h1, rfl, Lib.hid ⟨List.Perm.refl _, fun p q h1 h2 => by omega⟩, h, Only.refl _ _ _⟩
  case round =>
    clear h
    obtain ⟨i, L, hi1, hil, rfl, HL, ho, hon⟩ := hrel
    by_cases hlt : i < os.length
    · have HI := Lib.hid (Ins.start HL.out.2 (show i < L.length by rw [HL.out.1.length_eq]; exact hlt))
      have HPm := Lib.hid HL.out.1
      have HO := Lib.hid ho
      clear HL ho
      go_wp2
      go_loopw [9] (fun v wq => ∃ (j : Nat) (L' : List Nat), v = .int .i64 (j : Int) ∧ j ≤ i ∧ Hid (Ins κ i j L') ∧ Hid (L'.Perm os) ∧ OwnO wq lo hi ga off L' ∧ Only lo hi w wq) (fun v _ => (intOf v).toNat)
      case atStart => exact ⟨i, L, rfl, Nat.le_refl _, HI, HPm, HO.out, hon⟩
      case round =>
        clear HI HPm HO hon
        obtain ⟨j, L, rfl, hji, HI, HPm, ho, hon⟩ := hrel
        have hll := HPm.out.length_eq
        have HLL := Lib.hid hll
        by_cases j0 : 0 < j
        · obtain ⟨p, rfl⟩ : ∃ p, j = p + 1 := ⟨j - 1, by omega⟩
          have hp1 : p + 1 < L.length := by omega
          have hp0 : p < L.length := by omega
          have hSW := swapL_perm L p hp1
          obtain ⟨x0, f0⟩ := ho.nat hp1
          obtain ⟨y0, f1⟩ := ho.nat hp0
          have HW2 := Lib.hid (fun (W' : World) (hW : OwnO W' lo hi ga off L) => (by
            have ho2 := (hW.set (p + 1) L[p]).set p L[p + 1]
            have ho3 := (hW.set p L[p + 1]).set (p + 1) L[p]
            have hsc : (L.set p L[p + 1]).set (p + 1) L[p] = (L.set (p + 1) L[p]).set p L[p + 1] := List.set_comm _ _ (by omega)
            rw [hsc] at ho3
            have hsw : (L.set (p + 1) L[p]).set p L[p + 1] = swapL L p := by unfold swapL; rw [getD_lt _ _ _ hp1, getD_lt _ _ _ hp0]
            rw [hsw] at ho2 ho3
            exact ⟨ho2, ho3⟩ :
            OwnO ((W'.setCell ⟨ga, off + (p + 1), none⟩ (.int .i64 (L[p] : Nat))).setCell ⟨ga, off + p, none⟩ (.int .i64 (L[p + 1] : Nat))) lo hi ga off (swapL L p) ∧
            OwnO ((W'.setCell ⟨ga, off + p, none⟩ (.int .i64 (L[p + 1] : Nat))).setCell ⟨ga, off + (p + 1), none⟩ (.int .i64 (L[p] : Nat))) lo hi ga off (swapL L p)))
          have hx := perm_lt HPm.out HOS.out hp1
          have hy := perm_lt HPm.out HOS.out hp0
          have HKK := Lib.hid (HK.out L[p + 1] L[p] hx hy)
          have HXD := Lib.hid (getD_lt L (p + 1) 0 hp1)
          have HYD := Lib.hid (getD_lt L p 0 hp0)
          have HC := Lib.hid (fun W' (hW : Below wr.heap.size wr W') => HP.out W' L[p + 1] L[p] (hon.trans (Only.of_below hW)) hx hy)
          have HSW := Lib.hid hSW
          have HO := Lib.hid ho
          have hzs := hon.size
          clear ho hSW hll hx hy
          generalize L[p + 1] = x at *
          generalize L[p] = y at *
          have t1 : ((p : Int) + 1).toNat = p + 1 := by omega
          have t2 : ((p : Int) + 1 - 1).toNat = p := by omega
          have hv : Below wr.heap.size wr wr := Below.refl _ _
          have hgw : ga < wr.heap.size := by omega
          have b1 : (0 : Int) ≤ (p : Int) := by omega
          have b2 : (p : Int) < (os.length : Int) := by omega
          have b3 : (0 : Int) ≤ (p : Int) + 1 := by omega
          have b4 : (p : Int) + 1 < (os.length : Int) := by omega
          have b5 : IntKind.i64.wrap (p : Int) = (p : Int) := by rw [IntKind.wrap_i64]; omega
          rw [show ((p + 1 : Nat) : Int) = (p : Int) + 1 by omega]
          by_cases hf : f x y < 0
          · have HN := Lib.hid (HI.out.swap (by rw [HXD.out, HYD.out]; exact HKK.out.1 hf))
            go_wp2
            go_region_held3 (fun w' => Below wr.heap.size wr w' ∧ w'.cell? ⟨ga, off + (p + 1), none⟩ = some (.int .i64 (x : Int)) ∧ w'.cell? ⟨ga, off + p, none⟩ = some (.int .i64 (y : Int)))
              (first | exact ⟨hv, x0, y0⟩ | exact ⟨hv.drew, x0, y0⟩)
              ((go_at_fn g; refine (HC.out _ (by first | exact hv | exact hv.drew)).mono ?_; rintro e wq ⟨rfl, hbq⟩; obtain ⟨hv, x0, y0⟩ : Below wr.heap.size wr wq ∧ wq.cell? ⟨ga, off + (p + 1), none⟩ = some (.int .i64 (x : Int)) ∧ wq.cell? ⟨ga, off + p, none⟩ = some (.int .i64 (y : Int)) := (by first | exact sf_next ⟨hv, x0, y0⟩ hbq | exact sf_next ⟨hv.drew, x0, y0⟩ hbq)))
            have z0 := (hv.frozen (p := ⟨ga, off + (p + 1), none⟩) hgw).trans f0
            have z1 := (hv.frozen (p := ⟨ga, off + p, none⟩) hgw).trans f1
            have HOV := Lib.hid (HO.out.below hv (by omega))
            have HOL := Lib.hid (hon.trans (Only.of_below hv))
            clear hv
            go_wp2
            go_region
            all_goals
              go_wp2
              go_roundw
              case rel => exact ⟨p, swapL L p, by first | rfl | go_num, by omega, HN, Lib.hid (HSW.out.trans HPm.out), (by first | exact (HW2.out _ HOV.out).1 | exact (HW2.out _ HOV.out).2 | exact (HW2.out _ HOV.out).1.drew | exact (HW2.out _ HOV.out).2.drew), (by first | exact (HOL.out.setCell (p := ⟨ga, off + (p + 1), none⟩) hg1 hg2 _).setCell (p := ⟨ga, off + p, none⟩) hg1 hg2 _ | exact (HOL.out.setCell (p := ⟨ga, off + p, none⟩) hg1 hg2 _).setCell (p := ⟨ga, off + (p + 1), none⟩) hg1 hg2 _ | exact ((HOL.out.setCell (p := ⟨ga, off + (p + 1), none⟩) hg1 hg2 _).setCell (p := ⟨ga, off + p, none⟩) hg1 hg2 _).drew | exact ((HOL.out.setCell (p := ⟨ga, off + p, none⟩) hg1 hg2 _).setCell (p := ⟨ga, off + (p + 1), none⟩) hg1 hg2 _).drew)⟩
              case measure => simp [intOf]
          · have HS := Lib.hid (HI.out.stop (.inr (by rw [Nat.add_sub_cancel, HXD.out, HYD.out]; have h9 := HKK.out; omega)))
            go_wp2
            go_region_held3 (fun w' => Below wr.heap.size wr w' ∧ w'.cell? ⟨ga, off + (p + 1), none⟩ = some (.int .i64 (x : Int)) ∧ w'.cell? ⟨ga, off + p, none⟩ = some (.int .i64 (y : Int)))
              (first | exact ⟨hv, x0, y0⟩ | exact ⟨hv.drew, x0, y0⟩)
              ((go_at_fn g; refine (HC.out _ (by first | exact hv | exact hv.drew)).mono ?_; rintro e wq ⟨rfl, hbq⟩; obtain ⟨hv, x0, y0⟩ : Below wr.heap.size wr wq ∧ wq.cell? ⟨ga, off + (p + 1), none⟩ = some (.int .i64 (x : Int)) ∧ wq.cell? ⟨ga, off + p, none⟩ = some (.int .i64 (y : Int)) := (by first | exact sf_next ⟨hv, x0, y0⟩ hbq | exact sf_next ⟨hv.drew, x0, y0⟩ hbq)))
            have HOV := Lib.hid (HO.out.below hv (by omega))
            have HOL := Lib.hid (hon.trans (Only.of_below hv))
            clear hv
            go_wp2
            go_roundw
            case rel => exact ⟨i + 1, L, by omega, by omega, by go_num, Lib.hid ⟨HPm.out, HS.out⟩, HOV.out, HOL.out⟩
            case measure => simp [intOf]; omega
        · obtain rfl : j = 0 := by omega
          have HS := Lib.hid (HI.out.stop (.inl rfl))
          have HO := Lib.hid ho
          clear ho hll
          have hd0 : decide ((0 : Int) < 0) = false := rfl
          go_wp2
          go_quiet (fail)
          go_wp2
          go_roundw
          case rel => exact ⟨i + 1, L, by omega, by omega, by go_num, Lib.hid ⟨HPm.out, HS.out⟩, HO.out, hon.drewN _⟩
          case measure => simp [intOf]; omega
    · obtain rfl : i = os.length := by omega
      have HO := Lib.hid ho
      clear ho
      go_wp2
      go_end0
      exact ⟨rfl, L, HL.out.1, HL.out.2, HO.out, hon⟩
end Go.Proofs.Ytaocjjocncoahaa
