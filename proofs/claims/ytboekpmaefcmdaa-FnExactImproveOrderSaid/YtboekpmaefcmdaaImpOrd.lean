/- ImproveOrder, walked. -/
import Derived.Test.YtboekpmaefcmdaaSettled
namespace Go.Proofs.Ytboekpmaefcmdaa
open Go.RowKit

/-- An order, improved as often as can be. -/
def impN (W : List Nat) : Nat → List Int → List Int
  | 0, os => os
  | f + 1, os => match nxt W os with
    | none => os
    | some L => impN W f L
def imp (W : List Nat) (os : List Int) : List Int := impN W (revs W os) os
theorem nxt_some {W : List Nat} {os L : List Int} (h : nxt W os = some L) : revs W L < revs W os ∧ L.length = os.length ∧ (orderB os = true → orderB L = true) := by
  unfold nxt at h
  split at h
  · cases h
  · rename_i i hi
    have hir := List.mem_of_find?_eq_some hi
    rw [List.mem_range] at hir
    split at h
    · cases h
    · rename_i k hk
      have hkr := List.mem_of_find?_eq_some hk
      rw [List.mem_range] at hkr
      have hb := List.find?_some hk
      obtain rfl := Option.some.inj h
      unfold betB at hb
      exact ⟨of_decide_eq_true hb, mvL_length os i k hir hkr, mvL_order os i k hir⟩
theorem impN_stable (W : List Nat) : ∀ (f g : Nat) (os : List Int), revs W os ≤ f → revs W os ≤ g → impN W f os = impN W g os
  | 0, 0, _, _, _ => rfl
  | 0, g + 1, os, h1, _ => by
    have hn : nxt W os = none := by
      cases e : nxt W os with
      | none => rfl
      | some L => have := (nxt_some e).1; omega
    simp only [impN, hn]
  | f + 1, 0, os, _, h2 => by
    have hn : nxt W os = none := by
      cases e : nxt W os with
      | none => rfl
      | some L => have := (nxt_some e).1; omega
    simp only [impN, hn]
  | f + 1, g + 1, os, h1, h2 => by
    cases e : nxt W os with
    | none => simp only [impN, e]
    | some L =>
      have := (nxt_some e).1
      simp only [impN, e]
      exact impN_stable W f g L (by omega) (by omega)
theorem imp_none {W : List Nat} {os : List Int} (h : nxt W os = none) : imp W os = os := by
  unfold imp
  cases revs W os with
  | zero => rfl
  | succ n => simp only [impN, h]
theorem imp_some {W : List Nat} {os L : List Int} (h : nxt W os = some L) : imp W os = imp W L := by
  have h1 := (nxt_some h).1
  unfold imp
  obtain ⟨n, hn⟩ : ∃ n, revs W os = n + 1 := ⟨revs W os - 1, by omega⟩
  rw [hn]
  simp only [impN, h]
  exact impN_stable W _ _ L (by omega) (Nat.le_refl _)
theorem impN_length (W : List Nat) : ∀ (f : Nat) (os : List Int), (impN W f os).length = os.length
  | 0, _ => rfl
  | f + 1, os => by
    cases e : nxt W os with
    | none => simp only [impN, e]
    | some L => simp only [impN, e]; rw [impN_length W f L]; exact (nxt_some e).2.1
/-- The numbers of a slice. -/
def rdInts (w : World) : Value → List Int
  | .slice (some p) n _ => (List.range n).map fun i => match w.cell? ⟨p.block, p.off + i, none⟩ with
    | some v => intOf v
    | none => 0
  | _ => []
theorem rdInts_of {w : World} {B b o c n : Nat} {zs : List Int} (h : Row w B (some ⟨b, o, none⟩) (ints zs)) (hn : zs.length = n) : rdInts w (.slice (some ⟨b, o, none⟩) n c) = zs := by
  subst hn
  unfold rdInts
  apply List.ext_getElem
  · simp
  · intro i h1 h2
    obtain ⟨b9, o9, e9, _, x0⟩ := h.int h2
    simp only [Option.some.injEq, Addr.mk.injEq, and_true] at e9
    obtain ⟨rfl, rfl⟩ := e9
    simp [x0, intOf]
def rImproveOrder (s : Int) (zs : List Int) (os : List Int) : List Int := if rOrderOk s zs os then imp (toW zs) os else []
theorem rImproveOrder_len (s : Int) (zs : List Int) (os : List Int) : (rImproveOrder s zs os).length ≤ 1048576 := by
  unfold rImproveOrder
  split
  · rename_i hok
    obtain ⟨ho, hol, hob⟩ := orderOk_facts hok
    obtain ⟨W, rfl, rfl, hT⟩ := ok_tour ho
    rw [toW_casts] at hol ⊢
    have := hT.h8
    unfold imp
    rw [impN_length]
    omega
  · simp
def NxV (lo : Nat) (W : List Nat) (cur : List Int) (x : Value) (wr : World) : Prop :=
  (x = .slice none 0 0 ∧ nxt W cur = none) ∨ ∃ L g d, x = .slice (some ⟨g, 0, none⟩) W.length d ∧ nxt W cur = some L ∧ Own wr lo wr.heap.size 3 (some ⟨g, 0, none⟩) d (ints L)
set_option maxRecDepth 20000 in
theorem iImproveOrder_any (A : Option Addr) (c : Nat) (s : Int) (zs : List Int) (A' : Option Addr) (c' : Nat) (os : List Int) (w : World) (h : Row w w.heap.size A (ints zs)) (hl : zs.length ≤ 1099511627776) (h' : Row w w.heap.size A' (ints os)) (hl' : os.length ≤ 1099511627776) (hc' : os.length ≤ c') (_ : c' ≤ maxLen) :
    Calls Try.prog 21 #[.agg #[.int .i64 s, .slice A zs.length c], .slice A' os.length c'] w (NewInts w 3 (rImproveOrder s zs os)) := by
  cases hok : rOrderOk s zs os with
  | false =>
    have N : Hid (rImproveOrder s zs os = []) := Lib.hid (by unfold rImproveOrder; rw [hok]; rfl)
    have HK := Lib.hid hok
    clear hok
    go_enter Try.func21, Try.ntmps21
    go_wp2_with fail
    refine (iOrderOk_any A c s zs A' c' os _ (h.rowAt (by go_grown) (Nat.le_refl _)) hl (h'.rowAt (by go_grown) (Nat.le_refl _)) hl' hc').mono ?_
    rw [HK.out]
    rintro e w1 ⟨rfl, hb⟩
    obtain ⟨k0, k1, hbw, hsz⟩ := box1 hb
    clear hb
    go_wp2
    go_ret
    exact newInts_none _ N.out hbw
  | true =>
    obtain ⟨ho, hol, hob⟩ := orderOk_facts hok
    obtain ⟨W, rfl, rfl, hT⟩ := ok_tour ho
    rw [toW_casts] at hol
    have N : Hid (rImproveOrder (W.length : Int) (casts W) os = imp W os) := Lib.hid (by unfold rImproveOrder; rw [hok, toW_casts]; rfl)
    have g1 := hT.h1
    have g8 := hT.h8
    have HOL := Lib.hid hol
    have HOB := Lib.hid hob
    have HOK := Lib.hid (fun W' hr1 hr2 => iOrderOkW A c W A' c' os W' hT hr1 hr2 hl' hc' hol hob)
    rw [hol] at HOK
    have HIM := Lib.hid (fun B' d' os' W' hr1 hr2 hx1 hx2 => improved_any A c W B' d' os' W' hT hr1 hr2 hx1 hx2)
    obtain ⟨bo, oo, rfl, hbo, -⟩ := h'.int (k := 0) (by omega)
    have HCL := Lib.hid (fun W' hr => clone_some ⟨bo, oo, none⟩ c' os W' hr (by omega))
    rw [hol] at HCL
    rw [casts_length, hol]
    clear hok ho hl hol hob
    go_enter Try.func21, Try.ntmps21
    go_wp2_with fail
    refine (HOK.out _ (h.rowAt (by go_grown) (Nat.le_refl _)) (h'.rowAt (by go_grown) (Nat.le_refl _))).mono ?_
    rintro e w1 ⟨rfl, hb⟩
    obtain ⟨k0, k1, hbw, hsz⟩ := box1 hb
    clear hb
    go_wp2_with fail
    refine (HCL.out _ (h'.rowAt hbw (Nat.le_refl _))).mono ?_
    rintro e w2 ⟨B2, d2, rfl, ho2, hb2⟩
    rw [HOL.out]
    obtain ⟨g2, rfl, -⟩ := ho2.int (k := 0) (by have := HOL.out; omega)
    have hbw2 := below_trans hbw hb2
    have HO2 := Lib.hid (ho2.mono hbw.size (Nat.le_refl _))
    have hR2 : Row w2 w2.heap.size (some ⟨g2, 0, none⟩) (ints os) := ho2.row
    obtain ⟨c0, c1⟩ := held_at k0 k1 hb2
    clear ho2
    go_wp2_with fail
    refine (HIM.out _ _ os _ (h.rowAt hbw2 (Nat.le_refl _)) hR2 HOL.out HOB.out).mono ?_
    intro e w3 hres
    have hb3 : Below w2.heap.size w2 w3 := by
      rcases hres with ⟨_, _, hx⟩ | ⟨_, _, _, _, _, _, hx⟩
      · exact hx
      · exact hx
    have hz2 := hbw2.size
    obtain ⟨x, rfl, hx⟩ : ∃ x, e = .returned x ∧ NxV w.heap.size W os x w3 := by
      rcases hres with ⟨hn, rfl, _⟩ | ⟨L, g, d, hn, rfl, ho3, _⟩
      · exact ⟨_, rfl, .inl ⟨rfl, hn⟩⟩
      · exact ⟨_, rfl, .inr ⟨L, g, d, by rw [(nxt_some hn).2.1, HOL.out], hn, ho3.mono hz2 (Nat.le_refl _)⟩⟩
    have HX := Lib.hid hx
    clear hres hx
    go_wp2
    go_loopw [5, 6] (fun v x wr => ∃ (cur : List Int) (g d : Nat), v = .slice (some ⟨g, 0, none⟩) W.length d ∧ Hid (cur.length = W.length) ∧ Hid (orderB cur = true) ∧ Hid (imp W cur = imp W os) ∧ Hid (Own wr w.heap.size wr.heap.size 3 (some ⟨g, 0, none⟩) d (ints cur)) ∧ Hid (NxV w.heap.size W cur x wr) ∧ Below w1.heap.size w1 wr) (fun v _ wr => revs W (rdInts wr v))
    case atStart => exact ⟨os, g2, d2, rfl, HOL, HOB, Lib.hid rfl, Lib.hid ((HO2.out.below hb3 (Nat.le_refl _)).mono (Nat.le_refl _) hb3.size), HX, below_trans hb2 hb3⟩
    case round =>
      obtain ⟨cur, g, d, rfl, HL, HB, HI, HO, HN, hb⟩ := hrel
      have HR := Lib.hid (rdInts_of (c := d) HO.out.row HL.out)
      have hbz := below_trans hbw hb
      have hzz := hbz.size
      obtain ⟨c0, c1⟩ := held_at k0 k1 hb
      rcases HN.out with ⟨rfl, hn⟩ | ⟨L, g', d', rfl, hn, ho'⟩
      · have HE := Lib.hid (imp_none hn)
        have hnil := fun (WW : World) => run_neq_slice_nil_any (P := Try.prog) WW 22 3 none 0 0 0 0 Try.underlying22
        clear hn HN
        go_wp2
        go_ret
        exact ⟨_, _, ret_slice (by rw [N.out, ← HI.out, HE.out, HL.out]), by rw [N.out, ← HI.out, HE.out]; exact HO.out, hbz⟩
      · have HE := Lib.hid (imp_some hn)
        have HL' := Lib.hid ((nxt_some hn).2.1.trans HL.out)
        have HB' := Lib.hid ((nxt_some hn).2.2 HB.out)
        have HM := Lib.hid (nxt_some hn).1
        have HO' := Lib.hid ho'
        have hnil := fun (WW : World) => run_neq_slice_nil_any (P := Try.prog) WW 22 3 (some ⟨g', 0, none⟩) W.length d' 0 0 Try.underlying22
        clear hn HN ho'
        go_wp2_with fail
        refine (HIM.out _ _ L _ (h.rowAt hbz (Nat.le_refl _)) (HO'.out.row.mono (Nat.le_refl _)) HL'.out HB'.out).mono ?_
        intro e w4 hres
        have hb4 : Below wr.heap.size wr w4 := by
          rcases hres with ⟨_, _, hx⟩ | ⟨_, _, _, _, _, _, hx⟩
          · exact hx
          · exact hx
        obtain ⟨x, rfl, hx⟩ : ∃ x, e = .returned x ∧ NxV w.heap.size W L x w4 := by
          rcases hres with ⟨hn, rfl, _⟩ | ⟨L2, g, d, hn, rfl, ho3, _⟩
          · exact ⟨_, rfl, .inl ⟨rfl, hn⟩⟩
          · exact ⟨_, rfl, .inr ⟨L2, g, d, by rw [(nxt_some hn).2.1, HL'.out], hn, ho3.mono hzz (Nat.le_refl _)⟩⟩
        have HX2 := Lib.hid hx
        have HO2' := Lib.hid ((HO'.out.below hb4 (Nat.le_refl _)).mono (Nat.le_refl _) hb4.size)
        have HR2 := Lib.hid (rdInts_of (c := d') HO2'.out.row HL'.out)
        clear hres hx
        go_wp2
        go_roundw
        case rel => exact ⟨L, g', d', rfl, HL', HB', Lib.hid (HE.out.symm.trans HI.out), HO2', HX2, below_trans hb hb4⟩
        case measure => rw [HR.out, HR2.out]; exact HM.out
set_option maxRecDepth 20000 in
theorem sImproveOrder_any (A : Option Addr) (c : Nat) (s : Int) (zs : List Int) (A' : Option Addr) (c' : Nat) (os : List Int) (w : World) (h : Row w w.heap.size A (ints zs)) (hl : zs.length ≤ 1099511627776) (h' : Row w w.heap.size A' (ints os)) (hl' : os.length ≤ 1099511627776) (hc' : os.length ≤ c') (_ : c' ≤ maxLen) :
    Calls Try.prog 19 #[.agg #[.int .i64 s, .slice A zs.length c], .slice A' os.length c'] w (NewInts w 3 (rImproveOrder s zs os)) := by
  cases hok : rOrderOk s zs os with
  | false =>
    have N : Hid (rImproveOrder s zs os = []) := Lib.hid (by unfold rImproveOrder; rw [hok]; rfl)
    have HK := Lib.hid hok
    clear hok
    go_enter Try.func19, Try.ntmps19
    go_wp2_with fail
    refine (sOrderOk_any A c s zs A' c' os _ (h.rowAt (by go_grown) (Nat.le_refl _)) hl (h'.rowAt (by go_grown) (Nat.le_refl _)) hl' hc').mono ?_
    rw [HK.out]
    rintro e w1 ⟨rfl, hb⟩
    obtain ⟨k0, k1, hbw, hsz⟩ := box1 hb
    clear hb
    go_wp2
    go_ret
    exact newInts_none _ N.out hbw
  | true =>
    obtain ⟨ho, hol, hob⟩ := orderOk_facts hok
    obtain ⟨W, rfl, rfl, hT⟩ := ok_tour ho
    rw [toW_casts] at hol
    have N : Hid (rImproveOrder (W.length : Int) (casts W) os = imp W os) := Lib.hid (by unfold rImproveOrder; rw [hok, toW_casts]; rfl)
    have g1 := hT.h1
    have g8 := hT.h8
    have HOL := Lib.hid hol
    have HOB := Lib.hid hob
    have HOK := Lib.hid (fun W' hr1 hr2 => sOrderOkW A c W A' c' os W' hT hr1 hr2 hl' hc' hol hob)
    rw [hol] at HOK
    have HIM := Lib.hid (fun B' d' os' W' hr1 hr2 hx1 hx2 hx3 hx4 => l08Better_any A c W B' d' os' W' hT hr1 hr2 hx1 hx2 hx3 hx4)
    obtain ⟨bo, oo, rfl, hbo, -⟩ := h'.int (k := 0) (by omega)
    rw [casts_length, hol]
    clear hok ho hl hol hob
    go_enter Try.func19, Try.ntmps19
    go_wp2_with fail
    refine (HOK.out _ (h.rowAt (by go_grown) (Nat.le_refl _)) (h'.rowAt (by go_grown) (Nat.le_refl _))).mono ?_
    rintro e w1 ⟨rfl, hb⟩
    obtain ⟨k0, k1, hbw, hsz⟩ := box1 hb
    clear hb
    go_wp2_with (at_builtin; refine wpList_pushAny rfl (.tmp 12) (.tmp 13) rfl w1.heap.size (w1.heap.size + 1) (w1.heap.size + 1) (some ⟨w1.heap.size, 0, none⟩) (some ⟨bo, oo, none⟩) 0 0 W.length c' W.length [] os rfl rfl rfl HOL.out.symm (Nat.zero_add _).symm ?c0 ?c1 (by omega) (by simp) (by simp) ?_)
    case c0 => exact Own.made w1 w1.heap.size 3 #[] (Nat.le_refl _) (by simp)
    case c1 => exact ((h'.rowAt hbw (Nat.le_refl _)).alloc (Nat.le_refl _) _).mono (by simp)
    intro B2 d2 w2 ho2 hg2
    have hb2 := below_only ((Below.refl w1.heap.size w1).alloc (Nat.le_refl _) (.cells #[] 3)) hg2 (Nat.le_refl _) (by simp)
    obtain ⟨g2, rfl, -⟩ := ho2.int (k := 0) (by have := HOL.out; omega)
    have HO2 := Lib.hid (ho2.mono hbw.size (Nat.le_refl _))
    clear ho2 hg2
    go_wp2
    go_loopw [5] (fun v wr => ∃ (cur : List Int) (g d : Nat), v = .slice (some ⟨g, 0, none⟩) W.length d ∧ Hid (cur.length = W.length) ∧ Hid (orderB cur = true) ∧ Hid (imp W cur = imp W os) ∧ Hid (Own wr w.heap.size wr.heap.size 3 (some ⟨g, 0, none⟩) d (ints cur)) ∧ Below w1.heap.size w1 wr) (fun v wr => revs W (rdInts wr v))
    case atStart => exact ⟨os, g2, d2, rfl, HOL, HOB, Lib.hid rfl, HO2, hb2⟩
    case round =>
      obtain ⟨cur, g, d, rfl, HL, HB, HI, HO, hb⟩ := hrel
      have HR := Lib.hid (rdInts_of (c := d) HO.out.row HL.out)
      have hbz := below_trans hbw hb
      have hzz := hbz.size
      obtain ⟨c0, c1⟩ := held_at k0 k1 hb
      have HC1 := Lib.hid (by have := HO.out.cap.1; rw [ints_length, HL.out] at this; exact this : W.length ≤ d)
      have HC2 : Hid (d ≤ maxLen) := Lib.hid HO.out.cap.2
      go_wp2_with fail
      refine (HIM.out _ _ cur _ (h.rowAt hbz (Nat.le_refl _)) HO.out.row HL.out HB.out HC1.out HC2.out).mono ?_
      rintro e w4 (⟨hn, rfl, hb4⟩ | ⟨L, g', d', hn, rfl, ho', hb4⟩)
      · have HE := Lib.hid (imp_none hn)
        have HO4 := Lib.hid ((HO.out.below hb4 (Nat.le_refl _)).mono (Nat.le_refl _) hb4.size)
        clear hn
        go_wp2
        go_ret
        exact ⟨_, _, ret_slice (by rw [N.out, ← HI.out, HE.out, HL.out]), by rw [N.out, ← HI.out, HE.out]; exact HO4.out, below_trans hbz hb4⟩
      · have HE := Lib.hid (imp_some hn)
        have hl9 := (nxt_some hn).2.1.trans HL.out
        have HL' := Lib.hid hl9
        have HB' := Lib.hid ((nxt_some hn).2.2 HB.out)
        have HM := Lib.hid (nxt_some hn).1
        have HO' := Lib.hid (ho'.mono hzz (Nat.le_refl _))
        have HR2 := Lib.hid (rdInts_of (c := d') HO'.out.row HL'.out)
        rw [hl9]
        clear hn ho' hl9
        go_wp2
        go_roundw
        case rel => exact ⟨L, g', d', rfl, HL', HB', Lib.hid (HE.out.symm.trans HI.out), HO', below_trans hb hb4⟩
        case measure => rw [HR.out, HR2.out]; exact HM.out
end Go.Proofs.Ytboekpmaefcmdaa
