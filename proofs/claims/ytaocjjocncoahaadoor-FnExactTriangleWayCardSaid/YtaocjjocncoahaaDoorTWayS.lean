/- TriangleWay, walked on the reference's side. -/
import Derived.Test.YtaocjjocncoahaaDoorTStepS
import Derived.Test.YtaocjjocncoahaaDoorWayP
namespace Go.Proofs.YtaocjjocncoahaaDoor
set_option linter.unusedVariables false
set_option linter.unusedSimpArgs false
open Go.RowKit

theorem cell_two0 {w : World} {b : Nat} {u v x : Value} (h : w.cell? ⟨b, 0, none⟩ = some x) : ((w.setCell ⟨b, 0, none⟩ v).setCell ⟨b, 1, none⟩ u).cell? ⟨b, 0, none⟩ = some v := by
  rw [World.cell?_setCell_other _ _ _ _ (by simp)]
  exact World.cell?_setCell_same _ _ _ h
theorem cell_two1 {w : World} {b : Nat} {u v x y : Value} (h : w.cell? ⟨b, 0, none⟩ = some x) (h' : w.cell? ⟨b, 1, none⟩ = some y) : ((w.setCell ⟨b, 0, none⟩ v).setCell ⟨b, 1, none⟩ u).cell? ⟨b, 1, none⟩ = some u :=
  World.cell?_setCell_same _ _ _ ((World.cell?_setCell_other _ _ _ _ (by simp)).trans h')
def NoStep (S : Known) (V : List Nat) (k j : Nat) : Prop := ∀ i (h : i < (triRows V).length), i < j → S.lookup (turnL V (triRows V)[i]) ≠ some k
set_option maxRecDepth 20000 in
set_option maxHeartbeats 4000000 in
theorem sTriangleWay_any (A : Option Addr) (c : Nat) (s : Int) (zs : List Int) (A' : Option Addr) (c' : Nat) (t : Int) (ys : List Int) (w : World) (h : Row w w.heap.size A (ints zs)) (hl : zs.length ≤ 1099511627776) (h' : Row w w.heap.size A' (ints ys)) (hl' : ys.length ≤ 1099511627776) :
    Calls Tryd.prog 15 #[.agg #[.int .i64 s, .slice A zs.length c], .agg #[.int .i64 t, .slice A' ys.length c']] w (NewTableOk w (rTriangleWay s zs t ys) (bTriangleWay s zs t ys)) := by
  have H1 := Lib.hid (fun W' hr hr' => sTwo_any A c s zs A' c' t ys W' hr hl hr' hl')
  obtain ⟨wb, hwb⟩ : ∃ wb, wb = (w.alloc (.cells #[.int .i64 s, .slice A zs.length c] 24)).alloc (.cells #[.int .i64 t, .slice A' ys.length c'] 24) := ⟨_, rfl⟩
  have hbw : Below w.heap.size w wb := by rw [hwb]; go_grown
  have hzb : wb.heap.size = w.heap.size + 2 := by rw [hwb]; simp
  have HT := Lib.hid (fun W' (hW : Below wb.heap.size wb W') => (by subst hwb; exact two2 hW :
    (Below wb.heap.size wb W' ∧ W'.cell? ⟨w.heap.size, 0, none⟩ = some (.int .i64 s) ∧ W'.cell? ⟨w.heap.size, 1, none⟩ = some (.slice A zs.length c) ∧ W'.cell? ⟨w.heap.size + 1, 0, none⟩ = some (.int .i64 t) ∧ W'.cell? ⟨w.heap.size + 1, 1, none⟩ = some (.slice A' ys.length c'))))
  have HF := Lib.hid (show wb.frozen? ⟨w.heap.size, 0, none⟩ = false ∧ wb.frozen? ⟨w.heap.size, 1, none⟩ = false by rw [hwb]; exact ⟨by go_simp, by go_simp⟩)
  have hX := h
  have h := Lib.hid (fun W' (hW : Below wb.heap.size wb W') => (h.rowAt (hbw.trans (hW.mono (by omega))) (Nat.le_refl _)))
  have h' := Lib.hid (fun W' (hW : Below wb.heap.size wb W') => (h'.rowAt (hbw.trans (hW.mono (by omega))) (Nat.le_refl _)))
  cases hr : rTwo s zs t ys with
  | false =>
    have HN : Hid (rTriangleWay s zs t ys = []) := Lib.hid (by unfold rTriangleWay; rw [hr]; rfl)
    have HO : Hid (bTriangleWay s zs t ys = false) := Lib.hid hr
    rw [HN.out, HO.out]
    rw [hr] at H1
    clear hr hX
    go_enter Tryd.func15, Tryd.ntmps15
    go_wp2_with fail
    rw [← hwb]
    clear hwb
    refine (H1.out wb (h.out _ (Below.refl _ _)) (h'.out _ (Below.refl _ _))).mono ?_
    rintro e w2 ⟨rfl, hb2⟩
    go_wp2
    refine bodyPost_ret (v := .tuple #[.slice none 0 0, .bool false]) (by simp [results, Tryd.results15, go_sem]) rfl ?_
    exact ⟨none, 0, rfl, OwnT.nil _ _ _, hbw.trans (hb2.mono (by omega))⟩
  | true =>
    rw [hr] at H1
    have HO : Hid (bTriangleWay s zs t ys = true) := Lib.hid hr
    obtain ⟨W, U, rfl, rfl, rfl, rfl, hW, hU, hVl, h5, hsc⟩ := two_facts hr
    obtain ⟨K, hK, hdK, hK1, hKl, _⟩ := way_facts hW hU hVl h5 hsc
    have HN := Lib.hid (rTriangleWay_is hr hK)
    rw [HN.out, HO.out]
    clear HN HO
    rw [casts_length, casts_length, hVl] at HT hwb H1
    rw [casts_length, casts_length, hVl]
    have hn1 := hW.h1
    have hX1 : ∀ W', Below wb.heap.size wb W' → ∀ q, w.heap.size + 2 ≤ q → RowX W' w.heap.size q A (ints (casts W)) := fun W' hb q hq => rowX_of ((hX.below (hbw.trans (hb.mono (by omega))) (Nat.le_refl _))) (by rw [ints_length, casts_length]; omega) (by have := hb.size; omega) (Nat.le_refl _) (by omega)
    have HX := Lib.hid hX1
    have HD := Lib.hid (fun W' hr => (by have := sDist_any A' c' U W' hU (by omega) hr; rwa [hVl] at this : Calls Tryd.prog 32 #[.agg #[.int .i64 (W.length : Int), .slice A' W.length c']] W' (NewInts W' 3 (outV W.length (FS U)))))
    obtain ⟨n, hn⟩ : ∃ n, n = W.length := ⟨_, rfl⟩
    have HNUM := Lib.hid (fun (V : List Nat) (hV : IsT V) (hl : V.length = n) (B : Option Addr) (b : Nat) W' hr => (by have := sNumber_any B b V W' hV hr; rwa [hl] at this :
      Calls Tryd.prog 33 #[.agg #[.int .i64 (n : Int), .slice B n b]] W' fun e w' => e = .returned (.int .i64 (numW V : Nat)) ∧ Below W'.heap.size W' w'))
    have HALL := Lib.hid (fun (V : List Nat) (hV : IsT V) (hl : V.length = n) (B : Option Addr) (b : Nat) W' hr => (by have := l04All_any B b V W' hV hr; rwa [hl] at this :
      Calls Tryd.prog 35 #[.agg #[.int .i64 (n : Int), .slice B n b]] W' (NewTable W' (triRows V))))
    have HREV := Lib.hid (fun (V : List Nat) (hV : IsT V) (hl : V.length = n) (B : Option Addr) (b : Nat) (A' : Option Addr) (c' x y z : Nat) W' hr hr' hx hy hz (ht : triN V x y z = true) => (by have := l04Reverse_any B b V A' c' x y z W' hV hr hr' hx hy hz (triN_ne hV ht).1 (triN_ne hV ht).2.1; rwa [hl] at this :
      Calls Tryd.prog 36 #[.agg #[.int .i64 (n : Int), .slice B n b], .slice A' 3 c'] W' (NewTour W' (n : Int) (casts (turnedW V x y z)))))
    have HS : Hid ((∀ V k, (FS U).lookup V = some k → IsT V ∧ V.length = n ∧ k ≤ 1024) ∧ ∀ V k, (FS U).lookup V = some (k + 1) → ∃ ts, ts ∈ triRows V ∧ (FS U).lookup (turnL V ts) = some k) := Lib.hid (by
      rw [hn]
      refine ⟨fun V k hk => ?_, fun V k hk => FS_down hU hVl h5 hk⟩
      obtain ⟨q1, q2⟩ := FS_val hU hVl h5 hk
      exact ⟨q1, q2, FS_small hU hVl h5 hk⟩)
    have HK := Lib.hid hK
    have HKL := Lib.hid hKl
    rw [← hn] at hwb HT H1 HD h5 hn1
    rw [← hn]
    have hn' : W.length = n := hn.symm
    clear hn
    clear hr hl hl' hsc hX hX1 hK hdK hKl hU
    go_enter Tryd.func15, Tryd.ntmps15
    go_wp2_with fail
    rw [← hwb]
    clear hwb
    refine (H1.out wb (h.out _ (Below.refl _ _)) (h'.out _ (Below.refl _ _))).mono ?_
    rintro e w2 ⟨rfl, hb2⟩
    obtain ⟨hbb, k0, k1, j0, j1⟩ := HT.out w2 hb2
    go_wp2_with fail
    refine (HD.out _ (h'.out _ hbb)).mono ?_
    rintro e w3 ⟨Go, d, rfl, oa, hb3⟩
    obtain ⟨go, eG, -⟩ := oa.int (k := 0) (by rw [outV_length]; exact Nat.two_pow_pos _)
    subst eG
    obtain ⟨oa2, g1, g2, -⟩ := oa.tight
    clear oa
    have oa := oa2
    clear oa2
    have hb23 := below_trans hb2 hb3
    obtain ⟨hbb3, k0, k1, j0, j1⟩ := HT.out w3 hb23
    have hz2 := hb2.size
    have hz3 := hb3.size
    have HXA := Lib.hid (HX.out w3 hbb3 go (by omega))
    have hbw3 : Below w.heap.size w w3 := hbw.trans (hbb3.mono (by omega))
    have f0 : w3.frozen? ⟨w.heap.size, 0, none⟩ = false := (hbb3.frozen (p := ⟨w.heap.size, 0, none⟩) (by simp; omega)).trans HF.out.1
    have f1 : w3.frozen? ⟨w.heap.size, 1, none⟩ = false := (hbb3.frozen (p := ⟨w.heap.size, 1, none⟩) (by simp; omega)).trans HF.out.2
    have HOV : Hid (∀ V, IsT V → V.length = n → (outV n (FS U))[numW V]? = some (dI (FS U) V)) := Lib.hid (fun V hV hl => by rw [List.getElem?_eq_getElem (outV_lt n (FS U) V hl), outV_at n (FS U) V hV hl (outV_lt n (FS U) V hl)])
    have hgo : w.heap.size + 2 ≤ go := by omega
    have hoa := oa.alloc (by omega) (.cells #[] 22)
    have hXA := HXA.out.below (w' := w3.alloc (.cells #[] 22)) (by go_grown)
    have d0 := (World.cell?_alloc_lt w3 (.cells #[] 22) ⟨w.heap.size, 0, none⟩ (by show w.heap.size < _; omega)).trans k0
    have d1 := (World.cell?_alloc_lt w3 (.cells #[] 22) ⟨w.heap.size, 1, none⟩ (by show w.heap.size < _; omega)).trans k1
    have hba : Below w3.heap.size w3 (w3.alloc (.cells #[] 22)) := by go_grown
    have hza : w3.heap.size ≤ (w3.alloc (.cells #[] 22)).heap.size := by simp
    have e0 : (w3.alloc (.cells #[] 22)).frozen? ⟨w.heap.size, 0, none⟩ = false := (hba.frozen (p := ⟨w.heap.size, 0, none⟩) (by simp; omega)).trans f0
    have e1 : (w3.alloc (.cells #[] 22)).frozen? ⟨w.heap.size, 1, none⟩ = false := (hba.frozen (p := ⟨w.heap.size, 1, none⟩) (by simp; omega)).trans f1
    have hbw4 : Below w.heap.size w (w3.alloc (.cells #[] 22)) := hbw3.alloc (by omega) _
    have hot : OwnT (w3.alloc (.cells #[] 22)) w3.heap.size (w3.alloc (.cells #[] 22)).heap.size (some ⟨w3.heap.size, 0, none⟩) 0 [] := OwnT.empty ((Own.made w3 w3.heap.size 22 #[] (Nat.le_refl _) (by simp)).mono (Nat.le_refl _) (by simp))
    have HOT := Lib.hid hot
    have HOA := Lib.hid hoa
    have HXA := Lib.hid hXA
    clear oa hoa hot hXA HX HD H1 HT hbb hbb3 hb2 hb3 hb23 k0 k1 j0 j1 f0 f1 hbw3 h' hbw HF h hba
    go_wp2
    generalize hw4 : w3.alloc (.cells #[] 22) = w4 at *
    clear hw4
    generalize FS U = S at *
    generalize outV n S = ov at *
    go_loopw [7] (fun v wr => ∃ (k : Nat) (V : List Nat) (acc : List (List Int)) (Av : Option Addr) (cv : Nat) (B : Option Addr) (b : Nat), v = .slice B acc.length b ∧ acc.length + k = K ∧ Hid (S.lookup V = some k) ∧ Hid (acc ++ wayL S V k = wayL S W K) ∧ Hid (OwnT wr w3.heap.size wr.heap.size B b acc) ∧ Hid (Own wr go (go + 1) 3 (some ⟨go, 0, none⟩) d (ints ov)) ∧ wr.cell? ⟨w.heap.size, 0, none⟩ = some (.int .i64 (n : Int)) ∧ wr.cell? ⟨w.heap.size, 1, none⟩ = some (.slice Av n cv) ∧ Hid (RowX wr w.heap.size go Av (ints (casts V))) ∧ wr.frozen? ⟨w.heap.size, 0, none⟩ = false ∧ wr.frozen? ⟨w.heap.size, 1, none⟩ = false ∧ w3.heap.size ≤ wr.heap.size ∧ Below w.heap.size w wr) (fun v _ => K - slN v)
    case atStart => exact ⟨K, W, [], A, c, some ⟨w3.heap.size, 0, none⟩, 0, rfl, by simp, HK, Lib.hid (by simp), HOT, HOA, d0, d1, HXA, e0, e1, hza, hbw4⟩
    case round =>
      clear HOT HOA d0 d1 HXA e0 e1 hbw4
      obtain ⟨k, V, acc, Av, cv, B, b, rfl, hkK, HLK, HAC, HOT, HOA, c0, c1, HRX, f0, f1, hzr, hbr⟩ := hrel
      obtain ⟨m, hm⟩ : ∃ m, m = wr.heap.size := ⟨_, rfl⟩
      rw [← hm] at HOT
      obtain ⟨hTV, hVn, hk1⟩ := HS.out.1 V k HLK.out
      have HN1 := Lib.hid (HNUM.out V hTV hVn Av cv wr HRX.out.row)
      obtain ⟨hnV, hov⟩ := List.getElem?_eq_some_iff.1 (HOV.out V hTV hVn)
      have HDI : Hid (ov[numW V] = (k : Int)) := Lib.hid (hov.trans (dI_some HLK.out))
      clear hov
      have HVN := Lib.hid (fun W' hr => HNUM.out V hTV hVn Av cv W' hr)
      go_wp2_with fail
      refine HN1.out.mono ?_
      rintro e w5 ⟨rfl, hb5⟩
      have hz5 := hb5.size
      have HOT5 := Lib.hid (HOT.out.below hb5 (by omega))
      have HOA5 := Lib.hid (HOA.out.below hb5 (by omega))
      obtain ⟨g', e, _, _, hco, _⟩ := HOA5.out.int (k := numW V) hnV
      simp only [Option.some.injEq, Addr.mk.injEq, and_true] at e
      subst e
      rw [HDI.out] at hco
      have HX5 := Lib.hid (HRX.out.below hb5)
      have c0 := (hb5.cell (p := ⟨w.heap.size, 0, none⟩) (World.block_lt_of_cell? _ _ c0)).trans c0
      have c1 := (hb5.cell (p := ⟨w.heap.size, 1, none⟩) (World.block_lt_of_cell? _ _ c1)).trans c1
      have f0 := (hb5.frozen (p := ⟨w.heap.size, 0, none⟩) (by simp; omega)).trans f0
      have f1 := (hb5.frozen (p := ⟨w.heap.size, 1, none⟩) (by simp; omega)).trans f1
      have hbr5 := below_trans hbr hb5
      generalize hnv : numW V = nV at *
      clear hnv
      clear HOT HOA HRX hb5 hbr HN1
      cases k with
      | zero =>
        have HE : Hid (acc = wayL S W K) := Lib.hid (by have := HAC.out; rwa [wayL, List.append_nil] at this)
        have hlen : Hid (acc.length = (wayL S W K).length) := Lib.hid (by rw [HE.out])
        clear HAC
        go_wp2
        refine bodyPost_ret (v := .tuple #[.slice B acc.length b, .bool true]) (by simp [results, Tryd.results15, go_sem]) rfl ?_
        exact ⟨B, b, by rw [hlen.out], by rw [← HE.out]; exact HOT5.out.mono (by omega) (by omega), hbr5⟩
      | succ k =>
        have HA1 := Lib.hid (HALL.out V hTV hVn Av cv w5 HX5.out.row)
        have HDN := Lib.hid (HS.out.2 V k HLK.out)
        obtain ⟨x, hx⟩ : ∃ x : Int, x = ((k + 1 : Nat) : Int) := ⟨_, rfl⟩
        rw [← hx] at hco HDI
        have hx0 : 0 < x := by omega
        have hwx : IntKind.i64.wrap (x - 1) = x - 1 := by rw [IntKind.wrap_i64]; omega
        have HXK : Hid (x - 1 = (k : Int)) := Lib.hid (by omega)
        clear hx
        have hROW := Lib.hid (fun ts hts => triRows_mem V ts hts)
        have htl := triRows_le V (by omega)
        go_wp2_with fail
        refine HA1.out.mono ?_
        rintro e w6 ⟨At, ct, rfl, hTb, hb6⟩
        obtain ⟨hs, hse, hout, hinn⟩ := hTb
        have HHO := Lib.hid hout
        have HHI := Lib.hid hinn
        have HSE := Lib.hid hse
        have hz6 := hb6.size
        clear hout hinn hse HA1
        go_wp2
        go_loopw [7, 27] (fun v i wr => ∃ j : Nat, j ≤ (triRows V).length ∧ i = .int .i64 (j : Int) ∧ v = .slice B acc.length b ∧ Hid (NoStep S V k j) ∧ Below w6.heap.size w6 wr) (fun _ i _ => (triRows V).length - (intOf i).toNat)
        case atStart => exact ⟨0, Nat.zero_le _, rfl, rfl, Lib.hid (fun i _ h => absurd h (by omega)), Below.refl _ _⟩
        case round =>
          obtain ⟨j, hj, rfl, rfl, HNO, hb⟩ := hrel
          by_cases hjl : j < (triRows V).length
          · obtain ⟨xa, ya, za, hxa, hya, hza, hts, htr⟩ := hROW.out _ (List.getElem_mem hjl)
            have hszB := hb.size
            have hjh : j < hs.length := by have := HSE.out; omega
            obtain ⟨gt, et, hg1, hg2, _⟩ : ∃ g, At = some ⟨g, 0, none⟩ ∧ w5.heap.size ≤ g ∧ g < w6.heap.size ∧ True := by
              rcases own_block HHO.out with h6 | ⟨g, h6, h7, h8⟩
              · obtain ⟨b', o', e, _⟩ := HHO.out.row (by rw [rowVs_length _ _ HSE.out]; omega)
                rw [h6] at e; cases e
              · exact ⟨g, h6, h7, h8, trivial⟩
            subst et
            have hrw := HHI.out.1 j hjh hjl
            obtain ⟨g3, e3, h31, h32⟩ : ∃ g, hs[j].1 = some ⟨g, 0, none⟩ ∧ w5.heap.size ≤ g ∧ g < w6.heap.size := by
              rcases own_block hrw with h6 | h6
              · obtain ⟨b', o', e, _⟩ := hrw.row (by rw [hts]; simp [ints, tri3])
                rw [h6] at e; cases e
              · exact h6
            have hcell : wr.cell? ⟨gt, j, none⟩ = some (.slice (some ⟨g3, 0, none⟩) 3 hs[j].2) := by
              obtain ⟨b', o', e, _, hc⟩ := HHO.out.row (by rw [rowVs_length _ _ HSE.out]; omega)
              simp only [Option.some.injEq, Addr.mk.injEq, and_true] at e
              obtain ⟨rfl, rfl⟩ := e
              have h9 := hc j _ (rowVs_get hs (triRows V) j hjh hjl)
              rw [Nat.zero_add, e3] at h9
              have h10 := (hb.cell (p := ⟨gt, j, none⟩) hg2).trans h9
              rw [h10]
              congr 2
              rw [hts]
              rfl
            rw [e3, hts] at hrw
            generalize hs[j].2 = c3 at *
            have HR3 := Lib.hid (hrw.below hb (Nat.le_refl _))
            have hXr := (HX5.out.below hb6).below hb
            have HRV := Lib.hid (HREV.out V hTV hVn Av cv (some ⟨g3, 0, none⟩) c3 xa ya za wr hXr.row (HR3.out.row.mono hszB) hxa hya hza htr)
            have hVT := turn_ok hTV hxa hya hza htr
            have hVl : (turnedW V xa ya za).length = n := (turnedW_length V xa ya za).trans hVn
            have hcl := Lib.hid (show (casts (turnedW V xa ya za)).length = n by rw [casts_length, hVl])
            have HTL := Lib.hid (show turnL V (triRows V)[j] = turnedW V xa ya za by rw [hts, turnL_tri])
            have HTS := Lib.hid hts
            obtain ⟨hnX, hox⟩ := List.getElem?_eq_some_iff.1 (HOV.out _ hVT hVl)
            have HDX := Lib.hid hox
            clear hox
            have HDQ := Lib.hid (dI_eq S (turnedW V xa ya za) k)
            have HOAr := Lib.hid ((HOA5.out.below hb6 (by omega)).below hb (by omega))
            have HOTr := Lib.hid ((HOT5.out.below hb6 (by omega)).below hb (by omega))
            have hbrr := below_trans (below_trans hbr5 hb6) hb
            obtain ⟨g', e, _, _, hco, _⟩ := HOAr.out.int (k := nV) hnV
            simp only [Option.some.injEq, Addr.mk.injEq, and_true] at e
            subst e
            rw [HDI.out] at hco
            obtain ⟨g', e, _, _, hcx, _⟩ := HOAr.out.int (k := numW (turnedW V xa ya za)) hnX
            simp only [Option.some.injEq, Addr.mk.injEq, and_true] at e
            subst e
            rw [HDX.out] at hcx
            have c0 := (hb.cell (p := ⟨w.heap.size, 0, none⟩) (by show w.heap.size < _; omega)).trans ((hb6.cell (p := ⟨w.heap.size, 0, none⟩) (World.block_lt_of_cell? _ _ c0)).trans c0)
            have c1 := (hb.cell (p := ⟨w.heap.size, 1, none⟩) (by show w.heap.size < _; omega)).trans ((hb6.cell (p := ⟨w.heap.size, 1, none⟩) (World.block_lt_of_cell? _ _ c1)).trans c1)
            have f0 := (hb.frozen (p := ⟨w.heap.size, 0, none⟩) (by simp; omega)).trans ((hb6.frozen (p := ⟨w.heap.size, 0, none⟩) (by simp; omega)).trans f0)
            have f1 := (hb.frozen (p := ⟨w.heap.size, 1, none⟩) (by simp; omega)).trans ((hb6.frozen (p := ⟨w.heap.size, 1, none⟩) (by simp; omega)).trans f1)
            have HXN := Lib.hid (fun B b W' hr => HNUM.out _ hVT hVl B b W' hr)
            have HNO2 := Lib.hid (fun (hne : S.lookup (turnL V (triRows V)[j]) ≠ some k) i (h : i < (triRows V).length) (hi : i < j + 1) => (by
              by_cases e : i = j
              · subst e; exact hne
              · exact HNO.out i h (by omega) : S.lookup (turnL V (triRows V)[i]) ≠ some k))
            have HSTEP := Lib.hid (fun (hy : S.lookup (turnL V (triRows V)[j]) = some k) => wayL_step hjl HNO.out hy)
            rw [HTL.out, HTS.out] at HSTEP
            rw [HTL.out] at HNO2
            clear hts HTL hrw
            generalize turnedW V xa ya za = X at *
            obtain ⟨y, hy⟩ : ∃ y, y = dI S X := ⟨_, rfl⟩
            rw [← hy] at hcx HDQ
            clear hy HDX
            go_wp2_with fail
            refine HRV.out.mono ?_
            rintro e w7 ⟨Ax, cx, rfl, ox, hb7⟩
            rw [hcl.out]
            have hz7 := hb7.size
            obtain ⟨w8, hw8⟩ : ∃ w8, w8 = w7.alloc (.cells #[.int .i64 (n : Int), .slice Ax n cx] 24) := ⟨_, rfl⟩
            have hb8 : Below w7.heap.size w7 w8 := by rw [hw8]; go_grown
            have hz8 : w8.heap.size = w7.heap.size + 1 := by rw [hw8]; simp
            have x0 : w8.cell? ⟨w7.heap.size, 0, none⟩ = some (.int .i64 (n : Int)) := by rw [hw8]; go_simp
            have x1 : w8.cell? ⟨w7.heap.size, 1, none⟩ = some (.slice Ax n cx) := by rw [hw8]; go_simp
            have hbr8 : Below wr.heap.size wr w8 := below_trans hb7 hb8
            have c0 := (hbr8.cell (p := ⟨w.heap.size, 0, none⟩) (by show w.heap.size < _; omega)).trans c0
            have c1 := (hbr8.cell (p := ⟨w.heap.size, 1, none⟩) (by show w.heap.size < _; omega)).trans c1
            have f0 := (hbr8.frozen (p := ⟨w.heap.size, 0, none⟩) (by simp; omega)).trans f0
            have f1 := (hbr8.frozen (p := ⟨w.heap.size, 1, none⟩) (by simp; omega)).trans f1
            have hco := (hbr8.cell (p := ⟨go, nV, none⟩) (by show go < _; omega)).trans hco
            have hcx := (hbr8.cell (p := ⟨go, numW X, none⟩) (by show go < _; omega)).trans hcx
            have HOX := Lib.hid (ox.below hb8 (Nat.le_refl _))
            have HR8 := Lib.hid (HR3.out.below hbr8 (by omega))
            have HX8 := Lib.hid (hXr.below hbr8)
            have HOA8 := Lib.hid (HOAr.out.below hbr8 (by omega))
            have HOT8 := Lib.hid (HOTr.out.below hbr8 (by omega))
            have hbw8 := below_trans hbrr hbr8
            have HB8 := Lib.hid (below_trans hb hbr8)
            clear HOAr HOTr HR3 hXr ox hbr8 hbrr hb7 hb8 HRV HX5 HOA5 HOT5 HDI HHO HHI hcell
            generalize hnx : numW X = nX at *
            clear hnx
            go_wp2
            rw [← hw8]
            clear hw8
            have HT8 := Lib.hid (fun W' (hW : Below w8.heap.size w8 W') => (⟨hW, (hW.cell (p := ⟨w7.heap.size, 0, none⟩) (by show w7.heap.size < _; omega)).trans x0, (hW.cell (p := ⟨w7.heap.size, 1, none⟩) (by show w7.heap.size < _; omega)).trans x1, (hW.cell (p := ⟨w.heap.size, 0, none⟩) (by show w.heap.size < _; omega)).trans c0, (hW.cell (p := ⟨w.heap.size, 1, none⟩) (by show w.heap.size < _; omega)).trans c1, (hW.cell (p := ⟨go, nV, none⟩) (by show go < _; omega)).trans hco, (hW.cell (p := ⟨go, nX, none⟩) (by show go < _; omega)).trans hcx⟩ :
              Below w8.heap.size w8 W' ∧ W'.cell? ⟨w7.heap.size, 0, none⟩ = some (.int .i64 (n : Int)) ∧ W'.cell? ⟨w7.heap.size, 1, none⟩ = some (.slice Ax n cx) ∧ W'.cell? ⟨w.heap.size, 0, none⟩ = some (.int .i64 (n : Int)) ∧ W'.cell? ⟨w.heap.size, 1, none⟩ = some (.slice Av n cv) ∧ W'.cell? ⟨go, nV, none⟩ = some (.int .i64 x) ∧ W'.cell? ⟨go, nX, none⟩ = some (.int .i64 y)))
            obtain ⟨hbb, x0, x1, c0, c1, hco, hcx⟩ := HT8.out w8 (Below.refl _ _)
            have hbb := hbb.drew
            go_region_held3 (fun W' => Below w8.heap.size w8 W' ∧ W'.cell? ⟨w7.heap.size, 0, none⟩ = some (.int .i64 (n : Int)) ∧ W'.cell? ⟨w7.heap.size, 1, none⟩ = some (.slice Ax n cx) ∧ W'.cell? ⟨w.heap.size, 0, none⟩ = some (.int .i64 (n : Int)) ∧ W'.cell? ⟨w.heap.size, 1, none⟩ = some (.slice Av n cv) ∧ W'.cell? ⟨go, nV, none⟩ = some (.int .i64 x) ∧ W'.cell? ⟨go, nX, none⟩ = some (.int .i64 y))
              (first | exact ⟨hbb, x0, x1, c0, c1, hco, hcx⟩ | exact ⟨hbb.drew, x0, x1, c0, c1, hco, hcx⟩)
              (first
                | (go_at_call 33; (with_reducible refine (HXN.out Ax cx _ ((HOX.out.below hbb (by omega)).row.mono (by have := hbb.size; omega))).mono ?_); rintro e wq ⟨rfl, hbq⟩; obtain ⟨hbb, x0, x1, c0, c1, hco, hcx⟩ := HT8.out _ (below_trans hbb hbq))
                | (go_at_call 33; (with_reducible refine (HVN.out _ (HX8.out.below hbb).row).mono ?_); rintro e wq ⟨rfl, hbq⟩; obtain ⟨hbb, x0, x1, c0, c1, hco, hcx⟩ := HT8.out _ (below_trans hbb hbq)))
            have HYX : Hid (y = x - 1 ↔ S.lookup X = some k) := Lib.hid (by rw [HXK.out]; exact HDQ.out)
            cases hq : (y == x - 1) with
            | false =>
              have hne : S.lookup X ≠ some k := fun e => by
                have := HYX.out.2 e
                simp [this] at hq
              have HBN := Lib.hid (below_trans HB8.out hbb)
              have HNO3 := Lib.hid (HNO2.out hne)
              clear hbb HB8 HT8 hb
              go_wp2
              go_roundw
              case rel => exact ⟨j + 1, by omega, by go_num, rfl, Lib.hid HNO3.out, HBN.out⟩
              case measure => simp [intOf]; omega
            | true =>
              have hy : S.lookup X = some k := HYX.out.1 (by simpa using hq)
              obtain ⟨w9, hw9, hb9⟩ : ∃ w9, w9 = _ ∧ Below w8.heap.size w8 w9 := ⟨_, rfl, hbb⟩
              subst hw9
              have hz9 := hb9.size
              have HR9 := Lib.hid (HR8.out.below hb9 (by omega))
              have HOT9 := Lib.hid (HOT8.out.below hb9 (by omega))
              have HOA9 := Lib.hid (HOA8.out.below hb9 (by omega))
              have HOX9 := Lib.hid (HOX.out.below hb9 (by omega))
              have f0 := (hb9.frozen (p := ⟨w.heap.size, 0, none⟩) (by simp; omega)).trans f0
              have f1 := (hb9.frozen (p := ⟨w.heap.size, 1, none⟩) (by simp; omega)).trans f1
              have hbw9 := below_trans hbw8 hb9
              have hacl : acc.length ≤ 1024 := by omega
              clear HR8 HOT8 HOA8 HOX HX8 HB8 hb hb9 hbb HT8 hq hwx HVN HXN hbw8
              go_wp2_with (at_builtin; refine wpList_pushT rfl (.tmp 46) (.tmp 48) rfl w3.heap.size m w8.heap.size B b acc.length acc (tri3 xa ya za) g3 c3 w9.heap.size 3 rfl rfl rfl ?c0 ?c1 rfl ?c2 ?c3 ?c4 ?c5 ?c6 ?c7 ?_)
              case c0 => exact HOT9.out.alloc (by omega) _
              case c1 => exact (HR9.out.alloc (by omega) _).mono (by omega) (by omega)
              case c2 => omega
              case c3 => simp; omega
              case c4 => simp; omega
              case c5 => go_simp
              case c6 => omega
              case c7 => simp; omega
              intro A2 c2 w10 hO1 hO2
              have hz10 := hO2.size
              have z9 : w9.heap.size + 1 ≤ w10.heap.size := by simpa using hz10
              have x0 : w10.cell? ⟨w7.heap.size, 0, none⟩ = some (.int .i64 (n : Int)) := (hO2.cell (p := ⟨w7.heap.size, 0, none⟩) (by simp; omega) (.inr (by show _ ≤ w7.heap.size; omega))).trans ((World.cell?_alloc_lt _ _ ⟨w7.heap.size, 0, none⟩ (by show w7.heap.size < _; omega)).trans x0)
              have x1 : w10.cell? ⟨w7.heap.size, 1, none⟩ = some (.slice Ax n cx) := (hO2.cell (p := ⟨w7.heap.size, 1, none⟩) (by simp; omega) (.inr (by show _ ≤ w7.heap.size; omega))).trans ((World.cell?_alloc_lt _ _ ⟨w7.heap.size, 1, none⟩ (by show w7.heap.size < _; omega)).trans x1)
              have hbA : Below w9.heap.size w9 (w9.alloc (.cells #[.slice (some ⟨g3, 0, none⟩) 3 c3] 22)) := by go_grown
              have hB10 : Below w3.heap.size w9 w10 := (hbA.mono (by omega)).trans (hO2.below (Nat.le_refl _) (by simp; omega))
              have c0 : w10.cell? ⟨w.heap.size, 0, none⟩ = some (.int .i64 (n : Int)) := (hB10.cell (p := ⟨w.heap.size, 0, none⟩) (by show w.heap.size < _; omega)).trans c0
              have c1 : w10.cell? ⟨w.heap.size, 1, none⟩ = some (.slice Av n cv) := (hB10.cell (p := ⟨w.heap.size, 1, none⟩) (by show w.heap.size < _; omega)).trans c1
              have f0 := (hB10.frozen (p := ⟨w.heap.size, 0, none⟩) (by simp; omega)).trans f0
              have f1 := (hB10.frozen (p := ⟨w.heap.size, 1, none⟩) (by simp; omega)).trans f1
              have HOA10 := Lib.hid (HOA9.out.below hB10 (by omega))
              have HOX10 := Lib.hid ((HOX9.out.alloc (by omega) (.cells #[.slice (some ⟨g3, 0, none⟩) 3 c3] 22)).only hO2 (by simp; omega) (.inr (by omega)))
              have hbw10 := hbw9.trans (hB10.mono (by omega))
              have HO1 := Lib.hid hO1
              clear hO1 hO2 hB10 hbA hbw9 HOA9 HOX9 HOT9 HR9
              have f1' : (w10.setCell ⟨w.heap.size, 0, none⟩ (.int .i64 (n : Int))).frozen? ⟨w.heap.size, 1, none⟩ = false := by rw [World.frozen?_setCell]; exact f1
              go_wp2
              have hbs : ∀ (X : World) (u : Value) (i : Nat), Below w.heap.size X (X.setCell ⟨w.heap.size, i, none⟩ u) := fun X u i => (Below.refl _ _).setCell (p := ⟨w.heap.size, i, none⟩) (by show w.heap.size ≤ w.heap.size; omega) u
              have HO2 := Lib.hid (HO1.out.keep (w' := (w10.setCell ⟨w.heap.size, 0, none⟩ (.int .i64 (n : Int))).setCell ⟨w.heap.size, 1, none⟩ (.slice Ax n cx)) (fun g h1 h2 => (Below.heap_setCell _ _ _ g (by show g ≠ w.heap.size; omega)).trans (Below.heap_setCell _ _ _ g (by show g ≠ w.heap.size; omega))))
              have HOA2 := Lib.hid (HOA10.out.keep (w' := (w10.setCell ⟨w.heap.size, 0, none⟩ (.int .i64 (n : Int))).setCell ⟨w.heap.size, 1, none⟩ (.slice Ax n cx)) (fun g h1 h2 => (Below.heap_setCell _ _ _ g (by show g ≠ w.heap.size; omega)).trans (Below.heap_setCell _ _ _ g (by show g ≠ w.heap.size; omega))))
              have HOX2 := Lib.hid (HOX10.out.keep (w' := (w10.setCell ⟨w.heap.size, 0, none⟩ (.int .i64 (n : Int))).setCell ⟨w.heap.size, 1, none⟩ (.slice Ax n cx)) (fun g h1 h2 => (Below.heap_setCell _ _ _ g (by show g ≠ w.heap.size; omega)).trans (Below.heap_setCell _ _ _ g (by show g ≠ w.heap.size; omega))))
              have HRX2 := Lib.hid (rowX_own (a := w.heap.size) (b := go) HOX2.out (by rw [ints_length, casts_length, hVl]; omega) (by omega) (by omega))
              have n0 := cell_two0 (u := .slice Ax n cx) (v := .int .i64 (n : Int)) c0
              have n1 := cell_two1 (u := .slice Ax n cx) (v := .int .i64 (n : Int)) c0 c1
              have hbw12 := (hbw10.trans (hbs w10 (.int .i64 (n : Int)) 0)).trans (hbs _ (.slice Ax n cx) 1)
              go_roundw
              case rel => exact ⟨k, X, acc ++ [tri3 xa ya za], Ax, cx, A2, c2, by simp, by simp; omega, Lib.hid hy, Lib.hid (by rw [← HAC.out, HSTEP.out hy, List.append_assoc]; rfl), by simpa using HO2, HOA2, n0, n1, HRX2, by rw [World.frozen?_setCell, World.frozen?_setCell]; exact f0, by rw [World.frozen?_setCell, World.frozen?_setCell]; exact f1, by simp; omega, hbw12⟩
              case measure => simp [slN]; omega
          · exfalso
            obtain ⟨ts, h1, h2⟩ := HDN.out
            obtain ⟨i, hi, rfl⟩ := List.getElem_of_mem h1
            exact HNO.out i hi (by omega) h2
end Go.Proofs.YtaocjjocncoahaaDoor
