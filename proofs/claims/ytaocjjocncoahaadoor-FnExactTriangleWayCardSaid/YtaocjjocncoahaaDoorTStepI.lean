/- TriangleWay, walked on the program's side. TriangleSteps, walked on the program's side; bounds of the way. -/
import Derived.Test.YtaocjjocncoahaaDoorWayQ
import Derived.Test.YtaocjjocncoahaaDoorTStepS
import Derived.Test.YtaocjjocncoahaaDoorTWayS
namespace Go.Proofs.YtaocjjocncoahaaDoor
set_option linter.unusedVariables false
set_option linter.unusedSimpArgs false
section
open Go.RowKit

/-- The row of the tour at hand: what the call was handed, or a row of this run's own. -/
def RowV (w : World) (b0 lo : Nat) (A : Option Addr) (c : Nat) (vs : List Value) : Prop := Row w b0 A vs ∨ Own w lo w.heap.size 3 A c vs
theorem RowV.row {w : World} {b0 lo c : Nat} {A : Option Addr} {vs : List Value} (h : RowV w b0 lo A c vs) (hb : b0 ≤ w.heap.size) : Row w w.heap.size A vs := by
  rcases h with h | h
  · exact h.mono hb
  · exact h.row
theorem RowV.below {w w' : World} {b0 lo c : Nat} {A : Option Addr} {vs : List Value} (h : RowV w b0 lo A c vs) (hb : Below w.heap.size w w') (hb0 : b0 ≤ w.heap.size) : RowV w' b0 lo A c vs := by
  rcases h with h | h
  · exact .inl (h.below hb hb0)
  · exact .inr ((h.below hb (Nat.le_refl _)).mono (Nat.le_refl _) hb.size)
theorem RowV.besideT {w w' : World} {b0 lo lo1 hi1 c c1 n : Nat} {A A1 : Option Addr} {vs : List Value} {rs : List (List Int)} (h : RowV w b0 lo A c vs) (hT : OwnT w lo1 hi1 A1 c1 rs) (ho : Only lo1 hi1 w w') (hb0 : b0 ≤ lo1) (hb1 : b0 ≤ w.heap.size)
    (hk : ∀ g, g < w.heap.size → some g ≠ (Value.slice A1 n c1).ownBlock → w'.heap[g]? = w.heap[g]?) : RowV w' b0 lo A c vs := by
  rcases h with h | h
  · exact .inl (h.rowOnly ho hb0 hb1)
  · exact .inr ((h.besideT hT (Nat.le_refl _) hk).mono (Nat.le_refl _) ho.size)
/-- A map's block has grown: the others stand. -/
theorem But3.grown {a b : Nat} {w w' w'' : World} (h : But3 a b b w w') (hg : w'.grownBy w'' (some a)) : But3 a b b w w'' :=
  ⟨hg.os.trans h.os, hg.tape.trans h.tape, hg.output.trans h.output, Nat.le_trans h.size hg.size, fun k hk h1 h2 h3 => (hg.block k (Nat.lt_of_lt_of_le hk h.size) (by intro e; simp at e; omega)).trans (h.block k hk h1 h2 h3)⟩
/-- Two stretches, the second with a queue's block that is the first one's or new. -/
theorem But3.join {a b g : Nat} {w w' w'' : World} (h : But3 a b b w w') (k : But3 a g g w' w'') (hg : g = b ∨ w.heap.size ≤ g) : But3 a b b w w'' :=
  ⟨k.os.trans h.os, k.tape.trans h.tape, k.output.trans h.output, Nat.le_trans h.size k.size, fun c hc h1 h2 h3 => (k.block c (Nat.lt_of_lt_of_le hc h.size) h1 (by rcases hg with rfl | hg <;> omega) (by rcases hg with rfl | hg <;> omega)).trans (h.block c hc h1 h2 h3)⟩
set_option maxRecDepth 20000 in
set_option maxHeartbeats 6000000 in
theorem iTriangleWay_any (A : Option Addr) (c : Nat) (s : Int) (zs : List Int) (A' : Option Addr) (c' : Nat) (t : Int) (ys : List Int) (w : World) (h : Row w w.heap.size A (ints zs)) (hl : zs.length ≤ 1099511627776) (h' : Row w w.heap.size A' (ints ys)) (hl' : ys.length ≤ 1099511627776) (hp : Pow w) :
    Calls Tryd.prog 16 #[.agg #[.int .i64 s, .slice A zs.length c], .agg #[.int .i64 t, .slice A' ys.length c']] w (NewTableOk w (rTriangleWay s zs t ys) (bTriangleWay s zs t ys)) := by
  have H1 := Lib.hid (fun W' hr hr' => iTwo_any A c s zs A' c' t ys W' hr hl hr' hl')
  obtain ⟨wb, hwb⟩ : ∃ wb, wb = (w.alloc (.cells #[.int .i64 s, .slice A zs.length c] 24)).alloc (.cells #[.int .i64 t, .slice A' ys.length c'] 24) := ⟨_, rfl⟩
  have hbw : Below w.heap.size w wb := by rw [hwb]; go_grown
  have hzb : wb.heap.size = w.heap.size + 2 := by rw [hwb]; simp
  have HT := Lib.hid (fun W' (hW : Below wb.heap.size wb W') => (by subst hwb; exact two2 hW :
    (Below wb.heap.size wb W' ∧ W'.cell? ⟨w.heap.size, 0, none⟩ = some (.int .i64 s) ∧ W'.cell? ⟨w.heap.size, 1, none⟩ = some (.slice A zs.length c) ∧ W'.cell? ⟨w.heap.size + 1, 0, none⟩ = some (.int .i64 t) ∧ W'.cell? ⟨w.heap.size + 1, 1, none⟩ = some (.slice A' ys.length c'))))
  have HF := Lib.hid (show wb.frozen? ⟨w.heap.size, 0, none⟩ = false ∧ wb.frozen? ⟨w.heap.size, 1, none⟩ = false by rw [hwb]; exact ⟨by go_simp, by go_simp⟩)
  have hX := h
  have hX' := h'
  have HP := Lib.hid (fun W' (hW : Below w.heap.size w W') => hp.on hW)
  have h := Lib.hid (fun W' (hW : Below wb.heap.size wb W') => (h.rowAt (hbw.trans (hW.mono (by omega))) (Nat.le_refl _)))
  have h' := Lib.hid (fun W' (hW : Below wb.heap.size wb W') => (h'.rowAt (hbw.trans (hW.mono (by omega))) (Nat.le_refl _)))
  clear hp
  cases hr : rTwo s zs t ys with
  | false =>
    have HN : Hid (rTriangleWay s zs t ys = []) := Lib.hid (by unfold rTriangleWay; rw [hr]; rfl)
    have HO : Hid (bTriangleWay s zs t ys = false) := Lib.hid hr
    rw [HN.out, HO.out]
    rw [hr] at H1
    clear hr hX hX'
    go_enter Tryd.func16, Tryd.ntmps16
    go_wp2_with fail
    rw [← hwb]
    clear hwb
    refine (H1.out wb (h.out _ (Below.refl _ _)) (h'.out _ (Below.refl _ _))).mono ?_
    rintro e w2 ⟨rfl, hb2⟩
    go_wp2
    refine bodyPost_ret (v := .tuple #[.slice none 0 0, .bool false]) (by simp [results, Tryd.results16, go_sem]) rfl ?_
    exact ⟨none, 0, rfl, OwnT.nil _ _ _, hbw.trans (hb2.mono (by omega))⟩
  | true =>
    rw [hr] at H1
    have HO : Hid (bTriangleWay s zs t ys = true) := Lib.hid hr
    obtain ⟨W, U, rfl, rfl, rfl, rfl, hW, hU, hVl, h5, hsc⟩ := two_facts hr
    obtain ⟨K, hK, hdK, hK1, hKl, _⟩ := way_facts hW hU hVl h5 hsc
    have HN := Lib.hid (rTriangleWay_is hr hK)
    rw [HN.out, HO.out]
    clear HN HO
    rw [casts_length, casts_length, hVl] at HT hwb H1
    rw [casts_length, casts_length, hVl]
    have hn1 := hW.h1
    have hX1 : ∀ W', Below wb.heap.size wb W' → ∀ q q', w.heap.size ≤ q → w.heap.size ≤ q' → RowX W' q q' A (ints (casts W)) := fun W' hb q q' hq hq' => rowX_of ((hX.below (hbw.trans (hb.mono (by omega))) (Nat.le_refl _))) (by rw [ints_length, casts_length]; omega) (by have := hb.size; omega) hq hq'
    have HX := Lib.hid hX1
    have HRW : Hid (∀ W', Below w.heap.size w W' → Row W' w.heap.size A (ints (casts W))) := Lib.hid (fun W' hb => hX.below hb (Nat.le_refl _))
    have HXW : Hid (∀ W', Below w.heap.size w W' → ∀ q q', w.heap.size ≤ q → w.heap.size ≤ q' → RowX W' q q' A (ints (casts W))) := Lib.hid (fun W' hb q q' hq hq' => rowX_of (hX.below hb (Nat.le_refl _)) (by rw [ints_length, casts_length]; omega) (by have := hb.size; omega) hq hq')
    have hX2 : ∀ W', Below wb.heap.size wb W' → ∀ q q', w.heap.size ≤ q → w.heap.size ≤ q' → RowX W' q q' A' (ints (casts U)) := fun W' hb q q' hq hq' => rowX_of ((hX'.below (hbw.trans (hb.mono (by omega))) (Nat.le_refl _))) (by rw [ints_length, casts_length]; have := hU.h1; omega) (by have := hb.size; omega) hq hq'
    have HX' := Lib.hid hX2
    obtain ⟨n, hn⟩ : ∃ n, n = W.length := ⟨_, rfl⟩
    have hUn : U.length = n := hVl.trans hn.symm
    have HFM := Lib.hid (fun (V : List Nat) (hV : IsT V) (hl : V.length = n) (B : Option Addr) (b : Nat) W' hr (hb : Below w.heap.size w W') => (by have := iFormatTour_any B b (V.length : Int) (casts V) W' hr (by rw [casts_length]; have := hV.h8; omega) (HP.out W' hb); rw [format_is hV, casts_length] at this; rwa [hl] at this :
      Calls Tryd.prog 26 #[.agg #[.int .i64 (n : Int), .slice B n b]] W' fun e w' => e = .returned (.string (textOf V)) ∧ Below W'.heap.size W' w'))
    have HALL := Lib.hid (fun (V : List Nat) (hV : IsT V) (hl : V.length = n) (B : Option Addr) (b : Nat) W' hr => (by have := triangles_any B b V W' hV hr; rwa [hl] at this :
      Calls Tryd.prog 38 #[.agg #[.int .i64 (n : Int), .slice B n b]] W' (NewTable W' (triRows V))))
    have HREV := Lib.hid (fun (V : List Nat) (hV : IsT V) (hl : V.length = n) (B : Option Addr) (b : Nat) (A' : Option Addr) (c' x y z : Nat) W' hr hr' hx hy hz (ht : triN V x y z = true) => (by have := turned_any B b V A' c' x y z W' hV hr hr' hx hy hz (triN_ne hV ht).1 (triN_ne hV ht).2.1; rwa [hl] at this :
      Calls Tryd.prog 39 #[.agg #[.int .i64 (n : Int), .slice B n b], .slice A' 3 c'] W' (NewTour W' (n : Int) (casts (turnedW V x y z)))))
    have HS : Hid ((∀ V k, (FS U).lookup V = some k → IsT V ∧ V.length = n ∧ k ≤ 1024) ∧ (∀ V k, (FS U).lookup V = some (k + 1) → ∃ ts, ts ∈ triRows V ∧ (FS U).lookup (turnL V ts) = some k) ∧ ∀ V, ((FS U).lookup V).isSome = true → ∀ ts, ts ∈ triRows V → ((FS U).lookup (turnL V ts)).isSome = true) := Lib.hid (by
      rw [hn]
      refine ⟨fun V k hk => ?_, fun V k hk => FS_down hU hVl h5 hk, (FS_ok hU hVl h5).2⟩
      obtain ⟨q1, q2⟩ := FS_val hU hVl h5 hk
      exact ⟨q1, q2, FS_small hU hVl h5 hk⟩)
    have HKI := Lib.hid (fun pp => (bfs_ok (n := n) hU hUn pp).1)
    have HLEN : Hid (∀ S : Known, KI n U S → S.length ≤ 1024) := Lib.hid (fun S hS => by
      have h1 := hS.len (by omega)
      have h2 : 2 ^ off n n ≤ 1024 := by
        have : ∀ n, n < 6 → 2 ^ off n n ≤ 1024 := by decide +kernel
        exact this n (by omega)
      omega)
    have HFS := Lib.hid (fun pp h1 h2 => FS_is hU hUn (by omega) pp h1 h2)
    have HK := Lib.hid hK
    have HKL := Lib.hid hKl
    have HTU := Lib.hid hU
    rw [← hn] at hwb HT H1 h5 hn1
    rw [← hn]
    have hn' : W.length = n := hn.symm
    clear hn hr hl hl' hsc hX hX' hX1 hX2 hK hdK hKl hU
    go_enter Tryd.func16, Tryd.ntmps16
    go_wp2_with fail
    rw [← hwb]
    clear hwb
    refine (H1.out wb (h.out _ (Below.refl _ _)) (h'.out _ (Below.refl _ _))).mono ?_
    rintro e w2 ⟨rfl, hb2⟩
    obtain ⟨hbb, k0, k1, j0, j1⟩ := HT.out w2 hb2
    have hz2 := hb2.size
    have hb3 : Below w2.heap.size w2 (w2.alloc (.map #[] 0)) := by go_grown
    have HM0 := Lib.hid (MapT.made w2 n)
    have hz3 : (w2.alloc (.map #[] 0)).heap.size = w2.heap.size + 1 := by simp
    have hbb3 := hbb.trans (hb3.mono (by omega))
    have HFU := Lib.hid <| HFM.out U HTU.out hUn A' c' (w2.alloc (.map #[] 0)) (h'.out _ hbb3) (hbw.trans (hbb3.mono (by omega)))
    have HJ := Lib.hid ((HT.out _ hbb3).2.2.2)
    have HZ := Lib.hid hz3
    clear hz3 hb3
    have HBB3 := Lib.hid hbb3
    clear hbb3 hbb
    have d0 := HJ.out.1
    have d1 := HJ.out.2
    have hmm := @run_makeMap Tryd.prog
    go_wp2_with fail
    refine HFU.out.mono ?_
    rintro e w4 ⟨rfl, hb4⟩
    generalize hw3 : w2.alloc (.map #[] 0) = w3 at *
    have hz3 := HZ.out
    have hbb3 := HBB3.out
    obtain ⟨b, hb⟩ : ∃ b, b = w2.heap.size := ⟨_, rfl⟩
    rw [← hb] at HM0 hz3 hz2
    rw [← hb]
    clear hw3 HZ HJ d0 d1 hmm hb2 HBB3
    clear hb
    have hM4 := HM0.out.below hb4
    have hz4 := hb4.size
    clear HFU HM0
    go_wp2_with (first | fail | (refine wpList_insT rfl _ _ _ rfl b 0 n [] U 0 rfl rfl rfl hM4 (by omega) (by omega) HTU.out hUn rfl ?_))
    intro w5 hM5 hg5
    have hO5 := grown_only hg5
    have hz5 := hO5.size
    have hb45 : Below b w4 w5 := hO5.below (Nat.le_refl _) (by omega)
    have hbb5 : Below wb.heap.size wb w5 := (hbb3.trans (hb4.mono (by omega))).trans (hb45.mono (by omega))
    obtain ⟨_, k0, k1, j0, j1⟩ := HT.out w5 hbb5
    have hbw5 : Below w.heap.size w w5 := hbw.trans (hbb5.mono (by omega))
    have f0 := (hbb5.frozen (p := ⟨w.heap.size, 0, none⟩) (by simp; omega)).trans HF.out.1
    have f1 := (hbb5.frozen (p := ⟨w.heap.size, 1, none⟩) (by simp; omega)).trans HF.out.2
    have hz6 : (w5.alloc (.cells #[.int .i64 (n : Int), .slice A' n c'] 24)).heap.size = w5.heap.size + 1 := by simp
    have hba : Below w5.heap.size w5 (w5.alloc (.cells #[.int .i64 (n : Int), .slice A' n c'] 24)) := by go_grown
    have hI0 : ISt n b 1 w5.heap.size 0 1 [(A', c')] 0 (bfs U 0) (bfs U 0) (w5.alloc (.cells #[.int .i64 (n : Int), .slice A' n c'] 24)) := by
      refine ⟨hM5.below hba, ownQ_one w5 n A' c', rfl, fun j V k x g1 g2 => ?_, by omega⟩
      match j, g1, g2 with
      | 0, g1, g2 =>
        simp at g2
        have g3 : (U, 0) = (V, k) := by simpa [bfs] using g1
        simp only [Prod.mk.injEq] at g3
        obtain ⟨rfl, rfl⟩ := g3
        subst g2
        exact (HX'.out _ (hbb5.trans (hba.mono (by omega))) b w5.heap.size (by omega) (by omega))
      | j + 1, g1, g2 => simp at g2
    have HI0 := Lib.hid hI0
    have hbw6 := hbw5.trans (hba.mono (by omega))
    have HXA := Lib.hid (HX.out _ (hbb5.trans (hba.mono (by omega))))
    have k0 := (hba.cell (p := ⟨w.heap.size, 0, none⟩) (by show w.heap.size < _; omega)).trans k0
    have k1 := (hba.cell (p := ⟨w.heap.size, 1, none⟩) (by show w.heap.size < _; omega)).trans k1
    have f0 := (hba.frozen (p := ⟨w.heap.size, 0, none⟩) (by simp; omega)).trans f0
    have f1 := (hba.frozen (p := ⟨w.heap.size, 1, none⟩) (by simp; omega)).trans f1
    have hgb : b < w5.heap.size := by omega
    have hwb' : w.heap.size + 2 ≤ b := by omega
    clear hI0 hba hbw5 hbb5 hbb3 hM5 hM4 hg5 hO5 hb45 hb4 HX HX' HT HF H1 h h' hbw
    go_wp2
    generalize hw6 : w5.alloc (.cells #[.int .i64 (n : Int), .slice A' n c'] 24) = w6 at *
    clear hw6
    generalize hq0 : w5.heap.size = q0 at *
    clear hq0
    go_loopw [7] (fun v wr => ∃ (p gq oq cq mm : Nat) (hs : List (Option Addr × Nat)), Hid (ISt n b mm gq oq cq hs p (bfs U p) (bfs U p) wr) ∧ v = .slice (some ⟨gq, oq, none⟩) hs.length cq ∧ Hid (mm = (bfs U p).length) ∧ Hid (But3 b q0 q0 w6 wr) ∧ Hid (gq = q0 ∨ w6.heap.size ≤ gq) ∧ Below w.heap.size w wr) (fun v wr => 1025 + slN v - mapN wr b)
    case atStart => exact ⟨0, q0, 0, 1, 1, [(A', c')], HI0, rfl, Lib.hid rfl, Lib.hid (But3.refl _ _ _ _), Lib.hid (.inl rfl), hbw6⟩
    case round =>
      clear HI0 hbw6
      obtain ⟨p, gq, oq, cq, mm, hs, HI, rfl, HMM, HB, HGQ, hbr⟩ := hrel
      by_cases hlt : 0 < hs.length
      · have hlen := HI.out.len
        have hpS : p < (bfs U p).length := by omega
        obtain ⟨⟨Y, kk⟩, hWk⟩ : ∃ e, e = (bfs U p)[p] := ⟨_, rfl⟩
        have hSp : (bfs U p)[p]? = some (Y, kk) := by rw [List.getElem?_eq_getElem hpS, ← hWk]
        have hki := HKI.out p
        obtain ⟨hTY, hYl⟩ := hki.val (Y, kk) (List.mem_of_getElem? hSp)
        have hsm := hki.small p Y kk hSp
        have hp1024 : p < 1024 := by have := HLEN.out _ hki; omega
        have HMS := Lib.hid HI.out.map.size
        obtain ⟨Ah, ch, _, x0, x1, hXr⟩ := HI.out.row hSp
        have HXr := Lib.hid hXr
        have HA1 := Lib.hid (HALL.out Y hTY hYl Ah ch wr hXr.row)
        have hgq := HI.out.q.lt
        have hgb2 := HI.out.lt
        have HKW := Lib.hid hki
        have HTY := Lib.hid hTY
        have HYL := Lib.hid hYl
        have HSP := Lib.hid hSp
        have HLN := Lib.hid hlen
        have hzB := HB.out.size
        clear hXr hki hTY hYl hSp hWk hlen
        go_wp2_with fail
        refine HA1.out.mono ?_
        rintro e w7 ⟨At, ct, rfl, hTb, hb7⟩
        have HI7 : Hid (ISt n b mm gq oq cq hs p (innK (bfs U p) Y kk 0) (innK (bfs U p) Y kk 0) w7) := Lib.hid (HI.out.below hb7)
        have HMM7 : Hid (mm = (innK (bfs U p) Y kk 0).length) := HMM
        have HTB := Lib.hid hTb
        have hz7 := hb7.size
        have hbr7 := below_trans hbr hb7
        have HB7 := Lib.hid (HB.out.trans (But3.of_below hb7))
        have HINN := Lib.hid (fun j hj => HKW.out.inn HSP.out j hj)
        have HROW := Lib.hid (fun ts hts => triRows_mem Y ts hts)
        have HSUC := Lib.hid (fun j hj => innK_succ (bfs U p) Y kk j hj)
        have HEND := Lib.hid (innK_end (bfs U p) Y kk p HSP.out)
        have htl := triRows_le Y (by rw [HYL.out]; omega)
        have hgqw : gq < w7.heap.size := by omega
        clear hTb HA1 x0 x1 HXr hb7 hbr HB HI
        go_wp2
        go_loopw [7, 38] (fun v i wr => ∃ (j gq' oq' cq' mm' : Nat) (hs' : List (Option Addr × Nat)), Hid (ISt n b mm' gq' oq' cq' hs' p (innK (bfs U p) Y kk j) (innK (bfs U p) Y kk j) wr) ∧ i = .int .i64 (j : Int) ∧ v = .slice (some ⟨gq', oq', none⟩) hs'.length cq' ∧ j ≤ (triRows Y).length ∧ Hid (mm' = (innK (bfs U p) Y kk j).length) ∧ (gq' = gq ∨ w7.heap.size ≤ gq') ∧ Hid (But3 b gq gq w7 wr) ∧ Below w.heap.size w wr) (fun _ i _ => (triRows Y).length - (intOf i).toNat)
        case atStart => exact ⟨0, gq, oq, cq, mm, hs, HI7, rfl, rfl, Nat.zero_le _, HMM7, .inl rfl, Lib.hid (But3.refl _ _ _ _), hbr7⟩
        case round =>
          clear HI7 hbr7 HMM7
          obtain ⟨j, gq', oq', cq', mm', hs', HJ, rfl, rfl, hj, HMJ, hgq', HB2, hbr⟩ := hrel
          by_cases hjl : j < (triRows Y).length
          · obtain ⟨hkj, hSj, _⟩ := HINN.out j hj
            have hSj2 := (HINN.out (j + 1) (by omega)).1
            obtain ⟨xa, ya, za, hxa, hya, hza, hts, htr⟩ := HROW.out _ (List.getElem_mem hjl)
            have hszB := HB2.out.size
            have hTw : Table wr wr.heap.size At (triRows Y) := ((HTB.out.keep (fun g h1 h2 => HB2.out.block g h2 (by omega) (by omega) (by omega))).table).mono hszB
            obtain ⟨bt', ot, A3, c3, eA, hbt, hct, hrt⟩ := hTw.at_ hjl
            subst eA
            rw [hts] at hct hrt
            obtain ⟨Ah, ch, hpl', x0, x1, hXr⟩ := HJ.out.row hSj
            have HXr := Lib.hid hXr
            have HSU : Hid (innK (bfs U p) Y kk (j + 1) = addK (innK (bfs U p) Y kk j) (turnedW Y xa ya za) (kk + 1)) := Lib.hid (by rw [HSUC.out j hjl, hts, turnL_tri])
            have hVT := turn_ok HTY.out hxa hya hza htr
            have hVl : (turnedW Y xa ya za).length = n := (turnedW_length Y xa ya za).trans HYL.out
            have HRV := Lib.hid (HREV.out Y HTY.out HYL.out Ah ch A3 c3 xa ya za wr hXr.row hrt hxa hya hza htr)
            have HFV := Lib.hid (fun B b' W' hr (hb' : Below w.heap.size w W') => HFM.out (turnedW Y xa ya za) hVT hVl B b' W' hr hb')
            have HFY := Lib.hid (fun W' hr (hb' : Below w.heap.size w W') => HFM.out Y HTY.out HYL.out Ah ch W' hr hb')
            have hvl0 : 0 < (ints (casts (turnedW Y xa ya za))).length := by rw [ints_length, casts_length, hVl]; omega
            have HVT := Lib.hid hVT
            have HVL := Lib.hid hVl
            have hcl := Lib.hid (show (casts (turnedW Y xa ya za)).length = n by rw [casts_length, hVl])
            have HLJ : Hid ((innK (bfs U p) Y kk j).lookup Y = some kk) := Lib.hid (lookup_at hkj.nd hSj)
            have HL1 := Lib.hid (HLEN.out _ hkj)
            have HL2 := Lib.hid (HLEN.out _ hSj2)
            have hgq2 := HJ.out.q.lt
            have hgb3 := HJ.out.lt
            have hzB7 := HB7.out.size
            clear hXr hVT hVl hts hrt hkj hSj hSj2 hTw
            generalize turnedW Y xa ya za = V at *
            generalize innK (bfs U p) Y kk j = S at *
            generalize hS2 : innK (bfs U p) Y kk (j + 1) = S2 at *
            have HSE := Lib.hid hS2
            clear hS2
            cases hkn : (S.lookup V).isSome with
            | true =>
              have HS2 : Hid (S2 = S) := Lib.hid (by rw [HSU.out, addK_old hkn])
              have HKN := Lib.hid hkn
              clear hkn HSU
              go_wp2_with fail
              refine HRV.out.mono ?_
              rintro e w8 ⟨Av, cv, rfl, ov, hb8⟩
              rw [hcl.out]
              have hz8 := hb8.size
              have hba : Below w8.heap.size w8 (w8.alloc (.cells #[.int .i64 (n : Int), .slice Av n cv] 24)) := by go_grown
              have HFV8 := Lib.hid (HFV.out Av cv _ (((ov.alloc (Nat.le_refl _) (.cells #[.int .i64 (n : Int), .slice Av n cv] 24)).row).mono (by simp)) (below_trans hbr (below_trans hb8 hba)))
              have HBA := Lib.hid (below_trans hb8 hba)
              clear hb8 hba ov HRV
              go_wp2_with fail
              refine HFV8.out.mono ?_
              rintro e w9 ⟨rfl, hb9⟩
              have HBR9 := Lib.hid (below_trans HBA.out hb9)
              have HI9 := Lib.hid (HJ.out.below HBR9.out)
              have HM9 := Lib.hid HI9.out.map
              have HB9 := Lib.hid (HB2.out.trans (But3.of_below HBR9.out))
              have hbw9 := below_trans hbr HBR9.out
              clear HJ HB2 hbr hb9 HFV8 HBA HXr hct x0 x1
              rename_i K9 hK9
              refine hK9 _ _ ?_
              refine wpList_lookOkT rfl _ _ rfl b mm' n S V rfl rfl HM9.out HVT.out HVL.out (zeroT _) ?_
              rw [HKN.out]
              generalize (S.lookup V).getD 0 = yv at *
              go_wp2
              go_roundw
              case rel => exact ⟨j + 1, gq', oq', cq', mm', hs', by rw [HSE.out, HS2.out]; exact HI9, by go_num, rfl, by omega, by rw [HSE.out, HS2.out]; exact HMJ, hgq', HB9, hbw9⟩
              case measure => simp [intOf]; omega
            | false =>
              have HS2 : Hid (S2 = S ++ [(V, kk + 1)]) := Lib.hid (by rw [HSU.out, addK_new hkn])
              have HKN := Lib.hid hkn
              have hmj : mm' + 1 ≤ 1024 := by have h1 := HL2.out; rw [HS2.out, List.length_append, ← HMJ.out] at h1; simpa using h1
              have hsl : hs'.length + 1 ≤ 1024 := by have := HJ.out.len; have := HMJ.out; omega
              obtain ⟨k1, hk1⟩ : ∃ k1, k1 = kk + 1 := ⟨_, rfl⟩
              have hwk : IntKind.i64.wrap ((kk : Int) + 1) = (k1 : Int) := by rw [IntKind.wrap_i64]; omega
              have hk1l : k1 ≤ 1048576 := by omega
              rw [← hk1] at HS2
              have HK1 := Lib.hid hk1
              clear hkn HSU hk1
              go_wp2_with fail
              refine HRV.out.mono ?_
              rintro e w8 ⟨Av, cv, rfl, ov, hb8⟩
              rw [hcl.out]
              have hz8 := hb8.size
              have hba : Below w8.heap.size w8 (w8.alloc (.cells #[.int .i64 (n : Int), .slice Av n cv] 24)) := by go_grown
              have HFV8 := Lib.hid (HFV.out Av cv _ (((ov.alloc (Nat.le_refl _) (.cells #[.int .i64 (n : Int), .slice Av n cv] 24)).row).mono (by simp)) (below_trans hbr (below_trans hb8 hba)))
              have HBA := Lib.hid (below_trans hb8 hba)
              have HXV := Lib.hid ((rowX_own (a := b) (b := gq') ov hvl0 (by omega) (by omega)).below hba)
              clear hb8 hba ov HRV
              go_wp2_with fail
              refine HFV8.out.mono ?_
              rintro e w9 ⟨rfl, hb9⟩
              have y0 : w9.cell? ⟨w8.heap.size, 0, none⟩ = some (.int .i64 (n : Int)) := (hb9.cell (p := ⟨w8.heap.size, 0, none⟩) (by simp)).trans (by go_simp)
              have y1 : w9.cell? ⟨w8.heap.size, 1, none⟩ = some (.slice Av n cv) := (hb9.cell (p := ⟨w8.heap.size, 1, none⟩) (by simp)).trans (by go_simp)
              have hz9 : w8.heap.size + 1 ≤ w9.heap.size := by simpa using hb9.size
              have HBR9 := Lib.hid (below_trans HBA.out hb9)
              have x0 := (HBR9.out.cell (p := ⟨gq', oq', none⟩) hgq2).trans x0
              have x1 := (HBR9.out.cell (p := ⟨gq', oq' + 1, none⟩) hgq2).trans x1
              have HI9 := Lib.hid (HJ.out.below HBR9.out)
              have HM9 := Lib.hid HI9.out.map
              have HB9 := Lib.hid (HB2.out.trans (But3.of_below HBR9.out))
              have HBW9 := Lib.hid (below_trans hbr HBR9.out)
              have HXV9 := Lib.hid (HXV.out.below hb9)
              have HXY9 := Lib.hid (HXr.out.below HBR9.out)
              clear HJ HB2 hbr hb9 HFV8 HBA HXr hct HXV HBR9
              rename_i K9 hK9
              refine hK9 _ _ ?_
              refine wpList_lookOkT rfl _ _ rfl b mm' n S V rfl rfl HM9.out HVT.out HVL.out (zeroT _) ?_
              rw [HKN.out]
              generalize (S.lookup V).getD 0 = yv at *
              have hpl0 : (0 : Int) < (hs'.length : Int) := by omega
              go_wp2
              refine wp_region_held_drew (S := fun w' => w'.cell? ⟨w8.heap.size, 0, none⟩ = some (.int .i64 (n : Int)) ∧ w'.cell? ⟨w8.heap.size, 1, none⟩ = some (.slice Av n cv) ∧ w'.cell? ⟨gq', oq', none⟩ = some (.int .i64 (n : Int)) ∧ w'.cell? ⟨gq', oq' + 1, none⟩ = some (.slice Ah n ch)) (by kernel_rfl) ?_ (fun hHeld => ?_)
              · (try dsimp only); exact ⟨y0, y1, x0, x1⟩
              refine wpAnyH_take (i := 0) (v := ?_) rfl (by kernel_rfl) (by kernel_rfl) (by kernel_rfl) (fun _ _ _ h => h) (Or.inl ⟨by rfl, ?_⟩) (by assumption) ?_
              rotate_left
              · (intro wq hSw; (try dsimp only at hSw); (go_simp <;> with_reducible rfl))
              try simp only [Act.put, List.getElem_toArray, List.getElem_cons_zero, List.getElem_cons_succ, List.setIfInBounds_toArray, List.set_cons_zero, List.set_cons_succ]
              refine wpAnyH_take (i := 1) (v := ?_) rfl (by kernel_rfl) (by kernel_rfl) (by kernel_rfl) (fun _ _ _ h => h) (Or.inl ⟨by rfl, ?_⟩) (by assumption) ?_
              rotate_left
              · (intro wq hSw; (try dsimp only at hSw); (go_simp <;> with_reducible rfl))
              try simp only [Act.put, List.getElem_toArray, List.getElem_cons_zero, List.getElem_cons_succ, List.setIfInBounds_toArray, List.set_cons_zero, List.set_cons_succ]
              refine wpAnyH_take (i := 3) (v := ?_) rfl (by kernel_rfl) (by kernel_rfl) (by kernel_rfl) (fun _ _ _ h => h) (Or.inl ⟨by rfl, ?_⟩) (by assumption) ?_
              rotate_left
              · (intro wq hSw; (try dsimp only at hSw); (go_simp <;> with_reducible rfl))
              try simp only [Act.put, List.getElem_toArray, List.getElem_cons_zero, List.getElem_cons_succ, List.setIfInBounds_toArray, List.set_cons_zero, List.set_cons_succ]
              refine wpAnyH_take (i := 4) (v := ?_) rfl (by kernel_rfl) (by kernel_rfl) (by kernel_rfl) (fun _ _ _ h => h) (Or.inl ⟨by rfl, ?_⟩) (by assumption) ?_
              rotate_left
              · (intro wq hSw; (try dsimp only at hSw); (go_simp <;> with_reducible rfl))
              try simp only [Act.put, List.getElem_toArray, List.getElem_cons_zero, List.getElem_cons_succ, List.setIfInBounds_toArray, List.set_cons_zero, List.set_cons_succ]
              refine wpAnyH_take (i := 5) (v := ?_) rfl (by kernel_rfl) (by kernel_rfl) (by kernel_rfl) (fun _ _ _ h => h) (Or.inl ⟨by rfl, ?_⟩) (by assumption) ?_
              rotate_left
              · (intro wq hSw; (try dsimp only at hSw); (go_simp <;> with_reducible rfl))
              try simp only [Act.put, List.getElem_toArray, List.getElem_cons_zero, List.getElem_cons_succ, List.setIfInBounds_toArray, List.set_cons_zero, List.set_cons_succ]
              refine wpAnyH_take (i := 6) (v := ?_) rfl (by kernel_rfl) (by kernel_rfl) (by kernel_rfl) (fun _ _ _ h => h) (Or.inl ⟨by rfl, ?_⟩) (by assumption) ?_
              rotate_left
              · (intro wq hSw; (try dsimp only at hSw); (go_simp <;> with_reducible rfl))
              try simp only [Act.put, List.getElem_toArray, List.getElem_cons_zero, List.getElem_cons_succ, List.setIfInBounds_toArray, List.set_cons_zero, List.set_cons_succ]
              refine wpAnyH_ready (rs := [2]) (by kernel_rfl) (by simp) ?_
              refine AllReadyH.cons rfl (fun K hK => ?_) AllReadyH.nil
              go_simp
              (go_at_call 26; (with_reducible refine (HFV.out Av cv _ (HXV9.out.below (Below.refl _ _).drew).row (HBW9.out.trans ((Below.refl _ _).drew))).mono ?_); rintro e w10 ⟨rfl, hb10⟩; have hb10 := below_undrew hb10; have hz10 := hb10.size; have y0 := (hb10.cell (p := ⟨w8.heap.size, 0, none⟩) (by show w8.heap.size < _; omega)).trans y0; have y1 := (hb10.cell (p := ⟨w8.heap.size, 1, none⟩) (by show w8.heap.size < _; omega)).trans y1; have x0 := (hb10.cell (p := ⟨gq', oq', none⟩) (by show gq' < _; omega)).trans x0; have x1 := (hb10.cell (p := ⟨gq', oq' + 1, none⟩) (by show gq' < _; omega)).trans x1; go_wp2_with fail)
              refine hK.out _ _ ?_ (fun hHeld => ?_)
              · (try dsimp only); exact ⟨y0, y1, x0, x1⟩
              clear hK K
              try simp only [Act.put, List.getElem_toArray, List.getElem_cons_zero, List.getElem_cons_succ, List.setIfInBounds_toArray, List.set_cons_zero, List.set_cons_succ]
              refine wpAnyH_ready (rs := [7]) (by kernel_rfl) (by simp) ?_
              refine AllReadyH.cons rfl (fun K hK => ?_) AllReadyH.nil
              go_simp
              (go_at_call 26; (with_reducible refine (HFY.out _ (HXY9.out.below hb10).row (below_trans HBW9.out hb10)).mono ?_); rintro e w11 ⟨rfl, hb11⟩; have hb911 := below_trans hb10 hb11; have hz11 := hb11.size; have y0 := (hb11.cell (p := ⟨w8.heap.size, 0, none⟩) (by show w8.heap.size < _; omega)).trans y0; have y1 := (hb11.cell (p := ⟨w8.heap.size, 1, none⟩) (by show w8.heap.size < _; omega)).trans y1; have x0 := (hb11.cell (p := ⟨gq', oq', none⟩) (by show gq' < _; omega)).trans x0; have x1 := (hb11.cell (p := ⟨gq', oq' + 1, none⟩) (by show gq' < _; omega)).trans x1; have HM11 := Lib.hid (HM9.out.below hb911); go_wp2_with fail)
              refine hK.out _ _ ?_ (fun hHeld => ?_)
              · (try dsimp only); exact ⟨y0, y1, x0, x1⟩
              clear hK K
              try simp only [Act.put, List.getElem_toArray, List.getElem_cons_zero, List.getElem_cons_succ, List.setIfInBounds_toArray, List.set_cons_zero, List.set_cons_succ]
              refine wpAnyH_ready (rs := [8]) (by kernel_rfl) (by simp) ?_
              refine AllReadyH.cons rfl (fun K hK => ?_) AllReadyH.nil
              (refine step_lookT rfl _ _ rfl b mm' n S Y rfl rfl HM11.out HTY.out HYL.out (zeroT _) ?_; rw [HLJ.out]; simp only [Option.getD_some])
              refine hK.out _ _ ?_ (fun hHeld => ?_)
              · (try dsimp only); exact ⟨y0, y1, x0, x1⟩
              clear hK K
              try simp only [Act.put, List.getElem_toArray, List.getElem_cons_zero, List.getElem_cons_succ, List.setIfInBounds_toArray, List.set_cons_zero, List.set_cons_succ]
              refine wpAnyH_take (i := 9) (v := ?_) rfl (by kernel_rfl) (by kernel_rfl) (by kernel_rfl) (fun _ _ _ h => h) (Or.inl ⟨by rfl, ?_⟩) (by assumption) ?_
              rotate_left
              · (intro wq hSw; (try dsimp only at hSw); (go_simp <;> with_reducible rfl))
              try simp only [Act.put, List.getElem_toArray, List.getElem_cons_zero, List.getElem_cons_succ, List.setIfInBounds_toArray, List.set_cons_zero, List.set_cons_succ]
              refine wpAnyH_ready (rs := [10]) (by kernel_rfl) (by simp) ?_
              refine AllReadyH.cons rfl (fun K hK => ?_) AllReadyH.nil
              (refine step_putT rfl _ _ _ rfl b mm' n S V k1 rfl rfl rfl HM11.out (by omega) (by omega) HVT.out HVL.out HKN.out ?_; intro w12 hM12 hg12; have y0 := (World.cell?_of_block (a := ⟨w8.heap.size, 0, none⟩) (hg12.block w8.heap.size (by omega) (by intro e; simp at e; omega))).trans y0; have y1 := (World.cell?_of_block (a := ⟨w8.heap.size, 1, none⟩) (hg12.block w8.heap.size (by omega) (by intro e; simp at e; omega))).trans y1; have x0 := (World.cell?_of_block (a := ⟨gq', oq', none⟩) (hg12.block gq' (by omega) (by intro e; simp at e; omega))).trans x0; have x1 := (World.cell?_of_block (a := ⟨gq', oq' + 1, none⟩) (hg12.block gq' (by omega) (by intro e; simp at e; omega))).trans x1)
              refine hK.out _ _ ?_ (fun hHeld => ?_)
              · (try dsimp only); exact ⟨y0, y1, x0, x1⟩
              clear hK K
              try simp only [Act.put, List.getElem_toArray, List.getElem_cons_zero, List.getElem_cons_succ, List.setIfInBounds_toArray, List.set_cons_zero, List.set_cons_succ]
              refine wpAnyH_done (by kernel_rfl) ?_ _
              have HI11 := Lib.hid (HI9.out.below hb911)
              have HIP : Hid (ISt n b (mm' + 1) gq' oq' cq' hs' p (S ++ [(V, k1)]) S w12) := Lib.hid (HI11.out.put hM12 hg12)
              have HB12 : Hid (But3 b gq gq w7 w12) := Lib.hid ((HB9.out.trans (But3.of_below hb911)).grown hg12)
              have hbw12 : Below w.heap.size w w12 := below_only (below_trans HBW9.out hb911) (grown_only hg12) (by omega) (by omega)
              have hz12 := hg12.size
              have HXV12 : Hid (RowX w12 b gq' Av (ints (casts V))) := Lib.hid ((HXV9.out.below hb911).keep hg12.size (fun g h1 h2 _ => hg12.block g h1 (by intro e; simp at e; omega)))
              have HBW12 := Lib.hid hbw12
              clear HI9 HI11 HM9 HM11 HB9 HBW9 HXV9 HXY9 hb10 hb11 hb911 hM12 hg12 hbw12
              go_wp2_with (at_builtin; refine wpList_pushQ rfl (.tmp 66) (.tmp 68) rfl gq' oq' cq' n hs'.length w12.heap.size cv Av hs' rfl rfl rfl ?c0 ?c1 ?c2 (by omega) ?_)
              case c0 => exact HIP.out.q.keep (Below.heap_alloc _ _ _ (by omega))
              case c1 => go_simp
              case c2 => go_simp
              intro g2 o2 c2 w13 hQ hg2 hO
              have HIF : Hid (ISt n b (mm' + 1) g2 o2 c2 (hs' ++ [(Av, cv)]) p (S ++ [(V, k1)]) (S ++ [(V, k1)]) w13) := Lib.hid ((HIP.out.below ((Below.refl _ _).alloc (Nat.le_refl _) _)).push hQ (by rcases hg2 with e | e <;> first | exact .inl e | (right; simp; omega)) hO (HXV12.out.below ((Below.refl _ _).alloc (Nat.le_refl _) _)))
              have HBF : Hid (But3 b gq gq w7 w13) := Lib.hid ((HB12.out.trans (But3.of_below ((Below.refl _ _).alloc (Nat.le_refl _) _))).onlyQ hO hgq')
              have hbF : Below w.heap.size w w13 := below_only (HBW12.out.alloc (by omega) _) hO (by omega) (by simp; omega)
              clear HIP HB12 HBW12 HXV12 hQ hO
              go_wp2
              go_roundw
              case rel => exact ⟨j + 1, g2, o2, c2, mm' + 1, hs' ++ [(Av, cv)], by rw [HSE.out, HS2.out]; exact HIF, by go_num, by simp, by omega, Lib.hid (by rw [HSE.out, HS2.out, List.length_append, ← HMJ.out]; rfl), by rcases hgq' with e | e <;> rcases hg2 with e2 | e2 <;> first | (left; omega) | (right; omega), HBF, hbF⟩
              case measure => simp [intOf]; omega
          · obtain rfl : j = (triRows Y).length := by omega
            have HDE : Hid (ISt n b mm' gq' oq' cq' hs' p (bfs U (p + 1)) (bfs U (p + 1)) wr) := Lib.hid (by rw [bfs, ← HEND.out]; exact HJ.out)
            have HME : Hid (mm' = (bfs U (p + 1)).length) := Lib.hid (by rw [bfs, ← HEND.out]; exact HMJ.out)
            have hl9 := HDE.out.len
            have hpos : p < (bfs U (p + 1)).length := by
              have h10 := (HINN.out _ (Nat.le_refl _)).2.1
              rw [HEND.out] at h10
              exact (List.getElem?_eq_some_iff.1 h10).1
            have hcap := HDE.out.q.cap
            obtain ⟨x, t, rfl⟩ : ∃ x t, hs' = x :: t := by
              cases hs' with
              | nil => simp at hl9; omega
              | cons x t => exact ⟨x, t, rfl⟩
            have HBE := Lib.hid (HB7.out.join HB2.out HGQ.out)
            have HGE : Hid (gq' = q0 ∨ w6.heap.size ≤ gq') := Lib.hid (by have := HB7.out.size; rcases hgq' with e | e <;> rcases HGQ.out with e2 | e2 <;> first | (left; omega) | (right; omega))
            have hms := HDE.out.map.size
            have HMS2 := Lib.hid hms
            obtain ⟨d, rfl⟩ : ∃ d, cq' = d + 1 := ⟨cq' - 1, by have := hcap.1; simp at this; omega⟩
            rw [List.length_cons] at hcap hl9 ⊢
            have hdm := hcap.2
            unfold maxLen at hdm
            have hcap1 := hcap.1
            have HT1 := Lib.hid HDE.out.tail
            have HT0 : Hid (d = 0 → ISt n b mm' gq' oq' 0 [] (p + 1) (bfs U (p + 1)) (bfs U (p + 1)) wr) := Lib.hid (fun e => by
              have e2 : t = [] := List.length_eq_zero_iff.1 (by omega)
              have h11 := HDE.out
              subst e; subst e2
              exact h11.none)
            clear HJ HMJ HB7 HB2 HDE hms hcap HINN HROW HSUC HEND HTB hgq'
            generalize hm : t.length = m at *
            have HML := Lib.hid hm
            have HL9 := Lib.hid hl9
            clear hm hl9
            have c1 : (1 : Int) ≤ (m : Int) + 1 := by omega
            have c2 : (m : Int) + 1 ≤ (d : Int) + 1 := by omega
            by_cases hd0 : d = 0
            · have hm0 : m = 0 := by omega
              have ht0 : t = [] := List.length_eq_zero_iff.1 (by rw [HML.out]; exact hm0)
              have HT9 := Lib.hid (HT0.out hd0)
              clear HT0 HT1
              subst hd0 hm0 ht0
              go_wp2
              go_roundw
              case rel => exact ⟨p + 1, gq', oq', 0, mm', [], HT9, by simp, HME, HBE, HGE, hbr⟩
              case measure => (have h1 := HL9.out; have h2 := HMS2.out; have h3 := HMS.out; have h4 := HLN.out); simp [slN, h2, h3]; omega
            · clear HT0
              go_wp2
              go_roundw
              case rel => exact ⟨p + 1, gq', oq' + 2, d, mm', t, HT1, by rw [HML.out], HME, HBE, HGE, hbr⟩
              case measure => (have h1 := HL9.out; have h2 := HMS2.out; have h3 := HMS.out; have h4 := HLN.out); simp [slN, h2, h3]; omega
      · have hnil : hs = [] := List.length_eq_zero_iff.1 (by omega)
        have hF : Hid (FS U = bfs U p) := Lib.hid (by have := HI.out.len; rw [hnil] at this; simp at this; exact HFS.out p (by omega) (by omega))
        have HM : Hid (MapT wr b mm n (FS U)) := Lib.hid (by rw [hF.out]; exact HI.out.map)
        have hsz := HB.out.size
        have k0 := (HB.out.cell (p := ⟨w.heap.size, 0, none⟩) (by show w.heap.size < _; omega) (by show w.heap.size ≠ b; omega) (by show w.heap.size ≠ q0; omega) (by show w.heap.size ≠ q0; omega)).trans k0
        have k1 := (HB.out.cell (p := ⟨w.heap.size, 1, none⟩) (by show w.heap.size < _; omega) (by show w.heap.size ≠ b; omega) (by show w.heap.size ≠ q0; omega) (by show w.heap.size ≠ q0; omega)).trans k1
        have f0 := (HB.out.frozen (p := ⟨w.heap.size, 0, none⟩) (by show w.heap.size < _; omega) (by show w.heap.size ≠ b; omega) (by show w.heap.size ≠ q0; omega) (by show w.heap.size ≠ q0; omega)).trans f0
        have f1 := (HB.out.frozen (p := ⟨w.heap.size, 1, none⟩) (by show w.heap.size < _; omega) (by show w.heap.size ≠ b; omega) (by show w.heap.size ≠ q0; omega) (by show w.heap.size ≠ q0; omega)).trans f1
        have hbz : b < wr.heap.size := HM.out.lt
        subst hnil
        clear HI HMM hF HGQ hlt
        have HF7 := Lib.hid (HFM.out W hW hn' A c wr (HXW.out wr hbr b q0 (by omega) (by omega)).row hbr)
        go_wp2_with fail
        refine HF7.out.mono ?_
        rintro e w7 ⟨rfl, hb7⟩
        have HM7 := Lib.hid (HM.out.below hb7)
        have hbr7 := below_trans hbr hb7
        have hz7 := hb7.size
        have k0 := (hb7.cell (p := ⟨w.heap.size, 0, none⟩) (World.block_lt_of_cell? _ _ k0)).trans k0
        have k1 := (hb7.cell (p := ⟨w.heap.size, 1, none⟩) (World.block_lt_of_cell? _ _ k1)).trans k1
        have f0 := (hb7.frozen (p := ⟨w.heap.size, 0, none⟩) (by simp; omega)).trans f0
        have f1 := (hb7.frozen (p := ⟨w.heap.size, 1, none⟩) (by simp; omega)).trans f1
        have HXA7 : Hid (RowV w7 w.heap.size w7.heap.size A c (ints (casts W))) := Lib.hid (.inl (HRW.out w7 hbr7))
        clear HF7 HM hb7 hbr
        go_wp2_with (first | fail | (refine wpList_lookOkT rfl _ _ rfl b mm n (FS U) W rfl rfl HM7.out hW hn' (zeroT _) ?_))
        rw [HK.out]
        simp only [Option.getD_some, Option.isSome_some]
        have HWN : Hid ([] ++ wayL (FS U) W K = wayL (FS U) W K) := Lib.hid (List.nil_append _)
        go_wp2
        go_loopw [13, 15] (fun kv v wr => ∃ (k : Nat) (V : List Nat) (acc : List (List Int)) (Av : Option Addr) (cv : Nat) (B : Option Addr) (d : Nat), kv = .int .i64 (k : Int) ∧ v = .slice B acc.length d ∧ acc.length + k = K ∧ Hid ((FS U).lookup V = some k) ∧ Hid (acc ++ wayL (FS U) V k = wayL (FS U) W K) ∧ Hid (OwnT wr w7.heap.size wr.heap.size B d acc) ∧ Hid (MapT wr b mm n (FS U)) ∧ wr.cell? ⟨w.heap.size, 0, none⟩ = some (.int .i64 (n : Int)) ∧ wr.cell? ⟨w.heap.size, 1, none⟩ = some (.slice Av n cv) ∧ Hid (RowV wr w.heap.size w7.heap.size Av cv (ints (casts V))) ∧ wr.frozen? ⟨w.heap.size, 0, none⟩ = false ∧ wr.frozen? ⟨w.heap.size, 1, none⟩ = false ∧ w7.heap.size ≤ wr.heap.size ∧ Below w.heap.size w wr) (fun kv _ _ => (intOf kv).toNat)
        case atStart => exact ⟨K, W, [], A, c, none, 0, rfl, rfl, by simp, HK, HWN, Lib.hid (OwnT.nil _ _ _), HM7, k0, k1, HXA7, f0, f1, Nat.le_refl _, hbr7⟩
        case round =>
          clear HM7 k0 k1 HXA7 f0 f1 hbr7 HWN
          obtain ⟨k, V, acc, Av, cv, B, d, rfl, rfl, hkK, HLK, HAC, HOT, HMT, c0, c1, HRX, f0, f1, hzr, hbr⟩ := hrel
          cases k with
          | zero =>
            have HE : Hid (acc = wayL (FS U) W K) := Lib.hid (by have := HAC.out; rwa [wayL, List.append_nil] at this)
            have hlen : Hid (acc.length = (wayL (FS U) W K).length) := Lib.hid (by rw [HE.out])
            clear HAC
            go_wp2
            refine bodyPost_ret (v := .tuple #[.slice B acc.length d, .bool true]) (by simp [results, Tryd.results16, go_sem]) rfl ?_
            exact ⟨B, d, by rw [hlen.out], by rw [← HE.out]; exact HOT.out.mono (by omega) (by omega), hbr⟩
          | succ k =>
            obtain ⟨hTV, hVn, hk1⟩ := HS.out.1 V (k + 1) HLK.out
            obtain ⟨m, hm⟩ : ∃ m, m = wr.heap.size := ⟨_, rfl⟩
            rw [← hm] at HOT
            have HA1 := Lib.hid (HALL.out V hTV hVn Av cv wr (HRX.out.row hbr.size))
            have HDN := Lib.hid (HS.out.2.1 V k HLK.out)
            have HDC := Lib.hid (HS.out.2.2 V (by rw [HLK.out]; rfl))
            obtain ⟨x, hx⟩ : ∃ x : Int, x = ((k + 1 : Nat) : Int) := ⟨_, rfl⟩
            rw [← hx]
            have hx0 : 0 < x := by omega
            have hwx : IntKind.i64.wrap (x - 1) = x - 1 := by rw [IntKind.wrap_i64]; omega
            have HXK : Hid (x - 1 = (k : Int)) := Lib.hid (by omega)
            clear hx
            have hROW := Lib.hid (fun ts hts => triRows_mem V ts hts)
            have htl := triRows_le V (by omega)
            have hbz2 := HMT.out.lt
            go_wp2_with fail
            refine HA1.out.mono ?_
            rintro e w8 ⟨At, ct, rfl, hTb, hb8⟩
            obtain ⟨hs2, hse, hout, hinn⟩ := hTb
            have HHO := Lib.hid hout
            have HHI := Lib.hid hinn
            have HSE := Lib.hid hse
            have hz8 := hb8.size
            clear hout hinn hse HA1
            go_wp2
            go_loopw [15, 88] (fun v i wr => ∃ j : Nat, j ≤ (triRows V).length ∧ i = .int .i64 (j : Int) ∧ v = .slice B acc.length d ∧ Hid (NoStep (FS U) V k j) ∧ Below w8.heap.size w8 wr) (fun _ i _ => (triRows V).length - (intOf i).toNat)
            case atStart => exact ⟨0, Nat.zero_le _, rfl, rfl, Lib.hid (fun i _ h => absurd h (by omega)), Below.refl _ _⟩
            case round =>
              obtain ⟨j, hj, rfl, rfl, HNO, hb⟩ := hrel
              by_cases hjl : j < (triRows V).length
              · obtain ⟨xa, ya, za, hxa, hya, hza, hts, htr⟩ := hROW.out _ (List.getElem_mem hjl)
                have hszB := hb.size
                have hszR := hbr.size
                have hjh : j < hs2.length := by have := HSE.out; omega
                obtain ⟨gt, et, hg1, hg2, _⟩ : ∃ g, At = some ⟨g, 0, none⟩ ∧ m ≤ g ∧ g < w8.heap.size ∧ True := by
                  rcases own_block HHO.out with h6 | ⟨g, h6, h7, h8⟩
                  · obtain ⟨b', o', e, _⟩ := HHO.out.row (by rw [rowVs_length _ _ HSE.out]; omega)
                    rw [h6] at e; cases e
                  · exact ⟨g, h6, by omega, h8, trivial⟩
                subst et
                have hrw := HHI.out.1 j hjh hjl
                obtain ⟨g3, e3, h31, h32⟩ : ∃ g, hs2[j].1 = some ⟨g, 0, none⟩ ∧ m ≤ g ∧ g < w8.heap.size := by
                  rcases own_block hrw with h6 | ⟨g, h6, h7, h8⟩
                  · obtain ⟨b', o', e, _⟩ := hrw.row (by rw [hts]; simp [ints, tri3])
                    rw [h6] at e; cases e
                  · exact ⟨g, h6, by omega, h8⟩
                have hcell : wr.cell? ⟨gt, j, none⟩ = some (.slice (some ⟨g3, 0, none⟩) 3 hs2[j].2) := by
                  obtain ⟨b', o', e, _, hc⟩ := HHO.out.row (by rw [rowVs_length _ _ HSE.out]; omega)
                  simp only [Option.some.injEq, Addr.mk.injEq, and_true] at e
                  obtain ⟨rfl, rfl⟩ := e
                  have h9 := hc j _ (rowVs_get hs2 (triRows V) j hjh hjl)
                  rw [Nat.zero_add, e3] at h9
                  have h10 := (hb.cell (p := ⟨gt, j, none⟩) hg2).trans h9
                  rw [h10, hts]
                  rfl
                rw [e3, hts] at hrw
                generalize hs2[j].2 = c3 at *
                have HR3 := Lib.hid (hrw.below hb (Nat.le_refl _))
                have HXr := Lib.hid ((HRX.out.below hb8 (by omega)).below hb (by omega))
                have HREVX := Lib.hid (fun W' (hr : Row W' W'.heap.size Av (ints (casts V))) (hr3 : Row W' W'.heap.size (some ⟨g3, 0, none⟩) (ints (tri3 xa ya za))) => HREV.out V hTV hVn Av cv (some ⟨g3, 0, none⟩) c3 xa ya za W' hr hr3 hxa hya hza htr)
                have HRV := Lib.hid (HREVX.out wr (HXr.out.row (by omega)) (HR3.out.row.mono hszB))
                have hVT := turn_ok hTV hxa hya hza htr
                have hVl2 : (turnedW V xa ya za).length = n := (turnedW_length V xa ya za).trans hVn
                have hcl := Lib.hid (show (casts (turnedW V xa ya za)).length = n by rw [casts_length, hVl2])
                have HTL := Lib.hid (show turnL V (triRows V)[j] = turnedW V xa ya za by rw [hts, turnL_tri])
                have HTS := Lib.hid hts
                have HIN := Lib.hid (HDC.out _ (List.getElem_mem hjl))
                have HOTr := Lib.hid ((HOT.out.below hb8 (by omega)).below hb (by omega))
                have HMTr := Lib.hid ((HMT.out.below hb8).below hb)
                have hbrr := below_trans (below_trans hbr hb8) hb
                have c0 := (hb.cell (p := ⟨w.heap.size, 0, none⟩) (by show w.heap.size < _; omega)).trans ((hb8.cell (p := ⟨w.heap.size, 0, none⟩) (World.block_lt_of_cell? _ _ c0)).trans c0)
                have c1 := (hb.cell (p := ⟨w.heap.size, 1, none⟩) (by show w.heap.size < _; omega)).trans ((hb8.cell (p := ⟨w.heap.size, 1, none⟩) (World.block_lt_of_cell? _ _ c1)).trans c1)
                have f0 := (hb.frozen (p := ⟨w.heap.size, 0, none⟩) (by simp; omega)).trans ((hb8.frozen (p := ⟨w.heap.size, 0, none⟩) (by simp; omega)).trans f0)
                have f1 := (hb.frozen (p := ⟨w.heap.size, 1, none⟩) (by simp; omega)).trans ((hb8.frozen (p := ⟨w.heap.size, 1, none⟩) (by simp; omega)).trans f1)
                have HXN := Lib.hid (fun B b W' hr hbw' => HFM.out _ hVT hVl2 B b W' hr hbw')
                have HNO2 := Lib.hid (fun (hne : (FS U).lookup (turnL V (triRows V)[j]) ≠ some k) i (h : i < (triRows V).length) (hi : i < j + 1) => (by
                  by_cases e : i = j
                  · subst e; exact hne
                  · exact HNO.out i h (by omega) : (FS U).lookup (turnL V (triRows V)[i]) ≠ some k))
                have HSTEP := Lib.hid (fun (hy : (FS U).lookup (turnL V (triRows V)[j]) = some k) => wayL_step hjl HNO.out hy)
                rw [HTL.out, HTS.out] at HSTEP
                rw [HTL.out] at HNO2 HIN
                clear hts HTL hrw
                generalize turnedW V xa ya za = X at *
                obtain ⟨y, hy⟩ := Option.isSome_iff_exists.1 HIN.out
                have HY := Lib.hid hy
                have HVT := Lib.hid hVT
                clear hy HIN hVT
                go_wp2_with fail
                refine HRV.out.mono ?_
                rintro e w9 ⟨Ax, cx, rfl, ox, hb9⟩
                rw [hcl.out]
                have hz9 := hb9.size
                have HFX := Lib.hid (HXN.out Ax cx w9 ox.row (below_trans hbrr hb9))
                go_wp2_with fail
                refine HFX.out.mono ?_
                rintro e w10 ⟨rfl, hb10⟩
                have hb910 := below_trans hb9 hb10
                have HM10 := Lib.hid (HMTr.out.below hb910)
                rename_i K9 hK9
                refine hK9 _ _ ?_
                refine wpList_lookT rfl _ _ rfl b mm n (FS U) X rfl rfl HM10.out HVT.out hVl2 (zeroT _) ?_
                rw [HY.out]
                simp only [Option.getD_some]
                obtain ⟨yi, hyi⟩ : ∃ yi : Int, yi = (y : Int) := ⟨_, rfl⟩
                rw [← hyi]
                have HYX : Hid (yi = x - 1 ↔ (FS U).lookup X = some k) := Lib.hid (by
                  rw [HXK.out, HY.out, hyi]
                  exact ⟨fun e => by have : y = k := by omega
                                     rw [this], fun e => by have := Option.some.inj e; omega⟩)
                clear hyi
                have hz10 := hb10.size
                have hb810 : Below w8.heap.size w8 w10 := below_trans hb hb910
                have hbr10 : Below w.heap.size w w10 := below_trans hbrr hb910
                have c0 := (hb910.cell (p := ⟨w.heap.size, 0, none⟩) (by show w.heap.size < _; omega)).trans c0
                have c1 := (hb910.cell (p := ⟨w.heap.size, 1, none⟩) (by show w.heap.size < _; omega)).trans c1
                have f0 := (hb910.frozen (p := ⟨w.heap.size, 0, none⟩) (by simp; omega)).trans f0
                have f1 := (hb910.frozen (p := ⟨w.heap.size, 1, none⟩) (by simp; omega)).trans f1
                have HR10 := Lib.hid (HR3.out.below hb910 (by omega))
                have HX10 := Lib.hid (HXr.out.below hb910 (by omega))
                have HOT10 := Lib.hid (HOTr.out.below hb910 (by omega))
                have HB10 := Lib.hid hb810
                have HBR10 := Lib.hid hbr10
                clear HR3 HXr HOTr HMTr hb910 hbrr hb9 hb10 hb810 hbr10 hb HRV HFX HXN ox HHO HHI hcell
                cases hq : (yi == x - 1) with
                | false =>
                  have hne : (FS U).lookup X ≠ some k := fun e => by
                    have := HYX.out.2 e
                    simp [this] at hq
                  have HNO3 := Lib.hid (HNO2.out hne)
                  go_wp2
                  go_roundw
                  case rel => exact ⟨j + 1, by omega, by go_num, rfl, Lib.hid HNO3.out, HB10.out⟩
                  case measure => simp [intOf]; omega
                | true =>
                  have hy2 : (FS U).lookup X = some k := HYX.out.1 (by simpa using hq)
                  have HY2 := Lib.hid hy2
                  have hKL := HKL.out
                  have hacl : acc.length ≤ 1024 := by omega
                  clear hy2 HYX
                  go_wp2_with (at_builtin; refine wpList_pushT2 rfl (.tmp 101) (.tmp 103) rfl w7.heap.size m w8.heap.size B d acc.length acc (tri3 xa ya za) g3 c3 w10.heap.size 3 rfl rfl rfl ?c0 ?c1 rfl ?c2 ?c3 ?c4 ?c5 ?c6 ?c7 ?_)
                  case c0 => exact HOT10.out.alloc (by omega) _
                  case c1 => exact (HR10.out.alloc (by omega) _).mono (by omega) (by omega)
                  case c2 => omega
                  case c3 => simp; omega
                  case c4 => simp; omega
                  case c5 => go_simp
                  case c6 => omega
                  case c7 => simp; omega
                  intro A2 c2 w12 hO1 hO2 hO3
                  have hO3 : ∀ g, g < (w10.alloc (.cells #[.slice (some ⟨g3, 0, none⟩) 3 c3] 22)).heap.size → some g ≠ (Value.slice B acc.length d).ownBlock → w12.heap[g]? = (w10.alloc (.cells #[.slice (some ⟨g3, 0, none⟩) 3 c3] 22)).heap[g]? := fun g h1 h2 => hO3 g (by simpa using h1) h2
                  have hO2 : Only w7.heap.size m (w10.alloc (.cells #[.slice (some ⟨g3, 0, none⟩) 3 c3] 22)) w12 := by rw [hm]; exact hO2
                  have hz12 := hO2.size
                  have z12 : w10.heap.size + 1 ≤ w12.heap.size := by simpa using hz12
                  have hbA : Below w10.heap.size w10 (w10.alloc (.cells #[.slice (some ⟨g3, 0, none⟩) 3 c3] 22)) := by go_grown
                  have hB12 : Below w7.heap.size w10 w12 := (hbA.mono (by omega)).trans (hO2.below (Nat.le_refl _) (by simp; omega))
                  have c0 := (hB12.cell (p := ⟨w.heap.size, 0, none⟩) (by show w.heap.size < _; omega)).trans c0
                  have c1 := (hB12.cell (p := ⟨w.heap.size, 1, none⟩) (by show w.heap.size < _; omega)).trans c1
                  have f0 := (hB12.frozen (p := ⟨w.heap.size, 0, none⟩) (by simp; omega)).trans f0
                  have f1 := (hB12.frozen (p := ⟨w.heap.size, 1, none⟩) (by simp; omega)).trans f1
                  have HTA := Lib.hid (HOT10.out.alloc (by omega) (.cells #[.slice (some ⟨g3, 0, none⟩) 3 c3] 22))
                  have HR12 := Lib.hid ((HR10.out.alloc (by omega) (.cells #[.slice (some ⟨g3, 0, none⟩) 3 c3] 22)).besideT HTA.out (by simp; omega) hO3)
                  have HX12 := Lib.hid ((HX10.out.below hbA (by omega)).besideT HTA.out hO2 (by omega) (by simp; omega) hO3)
                  have hbw12 := HBR10.out.trans (hB12.mono (by omega))
                  have HM12 := Lib.hid (HM10.out.keep (hB12.block b (by omega)))
                  have HO1 := Lib.hid hO1
                  clear hO1 hO2 hO3 hB12 hbA HTA HR10 HX10 HOT10 HM10 HBR10 HB10 hz12
                  have HRV2 := Lib.hid (HREVX.out w12 (HX12.out.row (by omega)) (HR12.out.row.mono (by omega)))
                  go_wp2_with fail
                  refine HRV2.out.mono ?_
                  rintro e w13 ⟨Ay, cy, rfl, oy, hb13⟩
                  rw [hcl.out]
                  have hz13 := hb13.size
                  have c0 := (hb13.cell (p := ⟨w.heap.size, 0, none⟩) (by show w.heap.size < _; omega)).trans c0
                  have c1 := (hb13.cell (p := ⟨w.heap.size, 1, none⟩) (by show w.heap.size < _; omega)).trans c1
                  have f0 := (hb13.frozen (p := ⟨w.heap.size, 0, none⟩) (by simp; omega)).trans f0
                  have f1 := (hb13.frozen (p := ⟨w.heap.size, 1, none⟩) (by simp; omega)).trans f1
                  have HO13 := Lib.hid (HO1.out.below hb13 (Nat.le_refl _))
                  have HM13 := Lib.hid (HM12.out.below hb13)
                  have hbw13 := below_trans hbw12 hb13
                  have HOY := Lib.hid oy
                  clear oy hb13 hbw12 HO1 HM12 HR12 HX12 HRV2
                  have f1' : (w13.setCell ⟨w.heap.size, 0, none⟩ (.int .i64 (n : Int))).frozen? ⟨w.heap.size, 1, none⟩ = false := by rw [World.frozen?_setCell]; exact f1
                  go_wp2
                  have hbs : ∀ (X : World) (u : Value) (i : Nat), Below w.heap.size X (X.setCell ⟨w.heap.size, i, none⟩ u) := fun X u i => (Below.refl _ _).setCell (p := ⟨w.heap.size, i, none⟩) (by show w.heap.size ≤ w.heap.size; omega) u
                  have hkp : ∀ g, g ≠ w.heap.size → ((w13.setCell ⟨w.heap.size, 0, none⟩ (.int .i64 (n : Int))).setCell ⟨w.heap.size, 1, none⟩ (.slice Ay n cy)).heap[g]? = w13.heap[g]? := fun g h => (Below.heap_setCell _ _ _ g (by show g ≠ w.heap.size; omega)).trans (Below.heap_setCell _ _ _ g (by show g ≠ w.heap.size; omega))
                  have HO14 := Lib.hid (HO13.out.keep (w' := (w13.setCell ⟨w.heap.size, 0, none⟩ (.int .i64 (n : Int))).setCell ⟨w.heap.size, 1, none⟩ (.slice Ay n cy)) (fun g h1 h2 => hkp g (by omega)))
                  have HM14 := Lib.hid (HM13.out.keep (w' := (w13.setCell ⟨w.heap.size, 0, none⟩ (.int .i64 (n : Int))).setCell ⟨w.heap.size, 1, none⟩ (.slice Ay n cy)) (hkp b (by omega)))
                  have HOY14 := Lib.hid (HOY.out.keep (w' := (w13.setCell ⟨w.heap.size, 0, none⟩ (.int .i64 (n : Int))).setCell ⟨w.heap.size, 1, none⟩ (.slice Ay n cy)) (fun g h1 h2 => hkp g (by omega)))
                  have n0 := cell_two0 (u := .slice Ay n cy) (v := .int .i64 (n : Int)) c0
                  have n1 := cell_two1 (u := .slice Ay n cy) (v := .int .i64 (n : Int)) c0 c1
                  have hbw14 := (hbw13.trans (hbs w13 (.int .i64 (n : Int)) 0)).trans (hbs _ (.slice Ay n cy) 1)
                  go_roundw
                  case rel => exact ⟨k, X, acc ++ [tri3 xa ya za], Ay, cy, A2, c2, by rw [HXK.out], by simp, by simp; omega, Lib.hid HY2.out, Lib.hid (by rw [← HAC.out, HSTEP.out HY2.out, List.append_assoc]; rfl), Lib.hid (HO14.out.mono (Nat.le_refl _) (by simp; omega)), HM14, n0, n1, Lib.hid (.inr (HOY14.out.mono (by omega) (by simp))), by rw [World.frozen?_setCell, World.frozen?_setCell]; exact f0, by rw [World.frozen?_setCell, World.frozen?_setCell]; exact f1, by simp; omega, hbw14⟩
                  case measure => simp [intOf]; omega
              · exfalso
                obtain ⟨ts, h1, h2⟩ := HDN.out
                obtain ⟨i, hi, rfl⟩ := List.getElem_of_mem h1
                exact HNO.out i hi (by omega) h2
end
section
open Go.RowKit

theorem steps_way {s : Int} {zs : List Int} {t : Int} {ys : List Int} (h : rTwo s zs t ys = true) : rTriangleSteps s zs t ys = ((rTriangleWay s zs t ys).length : Int) ∧ (rTriangleWay s zs t ys).length ≤ 1024 ∧ ∀ r ∈ rTriangleWay s zs t ys, r.length ≤ 3 := by
  obtain ⟨W, V, rfl, rfl, rfl, rfl, hW, hV, hVl, h5, hsc⟩ := two_facts h
  obtain ⟨k, hk, hd, h1, hl, hr⟩ := way_facts hW hV hVl h5 hsc
  rw [rTriangleWay_is h hk]
  refine ⟨?_, by omega, hr⟩
  unfold rTriangleSteps
  rw [h, if_pos rfl, toW_casts, toW_casts, hd, hl]
theorem rTriangleWay_len (s : Int) (zs : List Int) (t : Int) (ys : List Int) : (rTriangleWay s zs t ys).length ≤ 1048576 ∧ (∀ r ∈ rTriangleWay s zs t ys, r.length ≤ 1099511627776) ∧ total (rTriangleWay s zs t ys) ≤ 1000000 := by
  cases h : rTwo s zs t ys with
  | false =>
    have e : rTriangleWay s zs t ys = [] := by unfold rTriangleWay; rw [h]; rfl
    rw [e]
    exact ⟨by simp, (fun r hr => by cases hr), by simp [total]⟩
  | true =>
    obtain ⟨_, h1, h2⟩ := steps_way h
    have h3 := total_le3 _ 3 h2
    exact ⟨by omega, (fun r hr => by have := h2 r hr; omega), by omega⟩
theorem iTriangleSteps_any (A : Option Addr) (c : Nat) (s : Int) (zs : List Int) (A' : Option Addr) (c' : Nat) (t : Int) (ys : List Int) (w : World) (h : Row w w.heap.size A (ints zs)) (hl : zs.length ≤ 1099511627776) (h' : Row w w.heap.size A' (ints ys)) (hl' : ys.length ≤ 1099511627776) (hp : Pow w) :
    Calls Tryd.prog 14 #[.agg #[.int .i64 s, .slice A zs.length c], .agg #[.int .i64 t, .slice A' ys.length c']] w fun e w' => e = .returned (.int .i64 (rTriangleSteps s zs t ys)) ∧ Below w.heap.size w w' := by
  obtain ⟨wb, hwb⟩ : ∃ wb, wb = (w.alloc (.cells #[.int .i64 s, .slice A zs.length c] 24)).alloc (.cells #[.int .i64 t, .slice A' ys.length c'] 24) := ⟨_, rfl⟩
  have hbw : Below w.heap.size w wb := by rw [hwb]; go_grown
  have hz : w.heap.size ≤ wb.heap.size := hbw.size
  have HC := Lib.hid (iTriangleWay_any A c s zs A' c' t ys wb (h.rowAt hbw (Nat.le_refl _)) hl (h'.rowAt hbw (Nat.le_refl _)) hl' (hp.on hbw))
  cases hr : rTwo s zs t ys with
  | false =>
    have HN : Hid (rTriangleSteps s zs t ys = -1) := Lib.hid (by unfold rTriangleSteps; rw [hr]; rfl)
    have HB : Hid (bTriangleWay s zs t ys = false) := Lib.hid hr
    rw [HB.out] at HC
    clear hr HB
    go_enter Tryd.func14, Tryd.ntmps14
    go_wp2_with fail
    rw [← hwb]
    refine HC.out.mono ?_
    rintro e w1 ⟨B, d, rfl, _, hb⟩
    go_wp2
    go_ret
    exact ⟨ret_int HN.out.symm, hbw.trans (hb.mono hz)⟩
  | true =>
    obtain ⟨hn, hl9, _⟩ := steps_way hr
    have HN := Lib.hid hn
    have HB : Hid (bTriangleWay s zs t ys = true) := Lib.hid hr
    rw [HB.out] at HC
    clear hr HB hn
    go_enter Tryd.func14, Tryd.ntmps14
    go_wp2_with fail
    rw [← hwb]
    refine HC.out.mono ?_
    rintro e w1 ⟨B, d, rfl, _, hb⟩
    go_wp2
    go_ret
    exact ⟨ret_int HN.out.symm, hbw.trans (hb.mono hz)⟩
end
end Go.Proofs.YtaocjjocncoahaaDoor
