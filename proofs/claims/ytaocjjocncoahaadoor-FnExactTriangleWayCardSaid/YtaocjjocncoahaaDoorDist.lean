/- l04Distances, walked. -/
import Derived.Test.YtaocjjocncoahaaDoorDistP
import Derived.Test.YtaocjjocncoahaaDoorNumS
import Derived.Test.YtaocjjocncoahaaDoorTRes
import Derived.Test.YtaocjjocncoahaaDoorTriang
namespace Go.Proofs.YtaocjjocncoahaaDoor
open Go.RowKit

theorem pairsN (n : Nat) (h1 : 1 ≤ n) (h5 : n ≤ 5) : ∃ p q : Nat, (n : Int) * ((n : Int) - 1) = (p : Int) ∧ (p : Int) / 2 = (q : Int) ∧ off n n = q ∧ q ≤ 10 ∧ p ≤ 20 := by
  have : ∀ n : Nat, n < 6 → 1 ≤ n → (n : Int) * ((n : Int) - 1) = ((n * (n - 1) : Nat) : Int) ∧ ((n * (n - 1) : Nat) : Int) / 2 = ((n * (n - 1) / 2 : Nat) : Int) ∧ off n n = n * (n - 1) / 2 ∧ n * (n - 1) / 2 ≤ 10 ∧ n * (n - 1) ≤ 20 := by decide +kernel
  exact ⟨_, _, this n (by omega) h1⟩
theorem repl_snoc (k : Nat) : List.replicate k (-1 : Int) ++ [-1] = List.replicate (k + 1) (-1) := by rw [List.replicate_succ']
set_option maxRecDepth 20000 in
set_option maxHeartbeats 4000000 in
theorem sDist_any (A : Option Addr) (c : Nat) (u : List Nat) (w : World) (hT : IsT u) (h5 : u.length ≤ 5) (h : Row w w.heap.size A (ints (casts u))) :
    Calls Tryd.prog 32 #[.agg #[.int .i64 (u.length : Int), .slice A u.length c]] w (NewInts w 3 (outV u.length (FS u))) := by
  have n1 := hT.h1
  obtain ⟨p, q, hp, hq, hoff, hq10, hp20⟩ := pairsN u.length n1 h5
  obtain ⟨M, hM⟩ : ∃ M, M = 2 ^ q := ⟨_, rfl⟩
  have hM2 : (2 : Int) ^ q = (M : Int) := by rw [hM, pow_cast]
  have hMle : M ≤ 1024 ∧ 1 ≤ M := by rw [hM]; exact ⟨Nat.le_trans (Nat.pow_le_pow_right (by omega) hq10) (by decide), Nat.one_le_two_pow⟩
  have HM : Hid (2 ^ off u.length u.length = M) := Lib.hid (by rw [hoff, hM])
  have hwp : IntKind.i64.wrap (p : Int) = (p : Int) := by rw [IntKind.wrap_i64]; omega
  have hwq : IntKind.i64.wrap (q : Int) = (q : Int) := by rw [IntKind.wrap_i64]; omega
  have hwM : IntKind.i64.wrap (M : Int) = (M : Int) := by rw [IntKind.wrap_i64]; omega
  clear hM hoff
  go_enter Tryd.func32, Tryd.ntmps32
  go_wp2
  obtain ⟨w1, hw1⟩ : ∃ w1, w1 = (w.alloc (.cells #[.int .i64 (u.length : Int), .slice A u.length c] 24)).alloc (.cells #[] 3) := ⟨_, rfl⟩
  rw [← hw1]
  have k0 : w1.cell? ⟨w.heap.size, 0, none⟩ = some (.int .i64 (u.length : Int)) := by rw [hw1]; go_simp
  have k1 : w1.cell? ⟨w.heap.size, 1, none⟩ = some (.slice A u.length c) := by rw [hw1]; go_simp
  have hbw : Below w.heap.size w w1 := by rw [hw1]; go_grown
  have hz1 : w1.heap.size = w.heap.size + 2 := by rw [hw1]; simp
  have ho1 : Own w1 (w.heap.size + 1) w1.heap.size 3 (some ⟨w.heap.size + 1, 0, none⟩) 0 (ints (List.replicate 0 (-1))) := by
    rw [hw1]
    have hm := Own.made (w.alloc (.cells #[.int .i64 (u.length : Int), .slice A u.length c] 24)) (w.heap.size + 1) 3 #[] (by simp) (by simp)
    rw [World.size_alloc] at hm
    exact hm.mono (Nat.le_refl _) (by simp)
  have HO1 := Lib.hid ho1
  clear hw1 ho1
  go_loopw [3, 4] (fun v i wr => ∃ (k : Nat) (B : Option Addr) (d : Nat), k ≤ M ∧ i = .int .i64 (k : Int) ∧ v = .slice B k d ∧ Own wr (w.heap.size + 1) wr.heap.size 3 B d (ints (List.replicate k (-1))) ∧ Below (w.heap.size + 1) w1 wr) (fun _ i _ => M - (intOf i).toNat)
  case atStart => exact ⟨0, _, 0, Nat.zero_le _, rfl, rfl, HO1.out, Below.refl _ _⟩
  case round =>
    clear HO1
    obtain ⟨k, B, d, hk, rfl, rfl, ho, hb⟩ := hrel
    have HO := Lib.hid ho
    clear ho
    have hsz := hb.size
    have c0 := (hb.cell (p := ⟨w.heap.size, 0, none⟩) (by simp)).trans k0
    have c1 := (hb.cell (p := ⟨w.heap.size, 1, none⟩) (by simp)).trans k1
    by_cases hlt : k < M
    · have HS := Lib.hid (repl_snoc k)
      go_wp2_with (at_builtin; refine wpList_push rfl (.tmp 24) (.tmp 25) rfl (w.heap.size + 1) wr.heap.size B d k (List.replicate k (-1)) (-1) wr.heap.size rfl rfl ?c0 ?c1 ?c2 ?c3 ?c4 ?_)
      case c0 => simp
      case c1 => exact HO.out.alloc (Nat.le_refl _) _
      case c2 => go_simp
      case c3 => omega
      case c4 => simp; omega
      intro A' c' w2 ho1 hg1
      have HO1 := Lib.hid ho1
      clear ho1
      go_wp2
      go_roundw
      case rel => exact ⟨k + 1, A', c', by omega, by go_num, rfl, by rw [← HS.out]; exact HO1.out, below_only (hb.alloc (by omega) _) hg1 (Nat.le_refl _) (by simp; omega)⟩
      case measure => simp [intOf]; omega
    · obtain rfl : k = M := by omega
      have hNum := Lib.hid (fun W' hr => sNumber_any A c u W' hT hr)
      have hbu : Below w.heap.size w wr := hbw.trans (hb.mono (by omega))
      have hru := h.rowAt hbu (Nat.le_refl _)
      have HOV : Hid (ints (List.replicate k (-1)) = ints (outV u.length [])) := Lib.hid (by rw [outV_nil, HM.out])
      have hon := HO.out
      rw [HOV.out] at hon
      have hnl := outV_lt u.length [] u rfl
      rw [outV_length, HM.out] at hnl
      obtain ⟨go, eG, _⟩ := hon.int (k := 0) (by rw [outV_length, HM.out]; omega)
      subst eG
      obtain ⟨hon, g1, g2, _⟩ := hon.tight
      go_wp2_with fail
      refine (hNum.out _ hru).mono ?_
      rintro e w3 ⟨rfl, hb3⟩
      have hz3 := hb3.size
      have hon3 := hon.below hb3 (by omega)
      obtain ⟨g', e, _, _, hcn, hcf⟩ := hon3.int (k := numW u) (by rw [outV_length, HM.out]; exact hnl)
      simp only [Option.some.injEq, Addr.mk.injEq, and_true] at e
      subst e
      have c0 := (hb3.cell (World.block_lt_of_cell? _ _ c0)).trans c0
      have c1 := (hb3.cell (World.block_lt_of_cell? _ _ c1)).trans c1
      have hbu3 := below_trans hbu hb3
      have hge : w.heap.size + 1 ≤ go := by omega
      have hgl : go < w3.heap.size := by omega
      have c0' : (w3.setCell ⟨go, numW u, none⟩ (.int .i64 0)).cell? ⟨w.heap.size, 0, none⟩ = some (.int .i64 (u.length : Int)) := (World.cell?_setCell_other w3 _ _ _ (fun e => by simp only [Addr.mk.injEq] at e; omega)).trans c0
      have c1' : (w3.setCell ⟨go, numW u, none⟩ (.int .i64 0)).cell? ⟨w.heap.size, 1, none⟩ = some (.slice A u.length c) := (World.cell?_setCell_other w3 _ _ _ (fun e => by simp only [Addr.mk.injEq] at e; omega)).trans c1
      have hru3 := h.rowAt hbu3 (Nat.le_refl _)
      have hD0 : DSt u.length go d w3.heap.size 0 1 [(A, c)] [(u, 0)] [(u, 0)] ((w3.setCell ⟨go, numW u, none⟩ (.int .i64 0)).alloc (.cells #[.int .i64 (u.length : Int), .slice A u.length c] 24)) := by
        refine ⟨?_, ?_, rfl, ?_, hgl⟩
        · have h1 := hon3.set (numW u) (.int .i64 ((0 : Nat) : Int))
          have e : (ints (outV u.length [])).set (numW u) (.int .i64 ((0 : Nat) : Int)) = ints (outV u.length ([] ++ [(u, 0)])) := by
            rw [← outV_set u.length [] u 0 hT rfl (by omega) rfl]
            unfold ints
            rw [List.map_set]
          rw [e] at h1
          exact h1.alloc (by simp; omega) _
        · refine ⟨#[.int .i64 (u.length : Int), .slice A u.length c], ?_, by simp, by simp, by unfold maxLen; omega, fun j x hj => ?_⟩
          · have := heap_alloc_new (w3.setCell ⟨go, numW u, none⟩ (.int .i64 0)) (.cells #[.int .i64 (u.length : Int), .slice A u.length c] 24)
            rwa [World.size_setCell] at this
          · match j, hj with
            | 0, hj => simp at hj; subst hj; exact ⟨rfl, rfl⟩
            | j + 1, hj => simp at hj
        · intro j V k' x g1 g2
          match j, g1, g2 with
          | 0, g1, g2 =>
            simp at g1 g2
            obtain ⟨rfl, rfl⟩ := g1
            subst g2
            obtain ⟨g, o, e, a1, a2⟩ := h (by simp [ints, casts]; omega)
            exact ⟨g, o, e, by simp; omega, by omega, by omega, fun i v hv => (World.cell?_alloc_lt _ _ ⟨g, o + i, none⟩ (by simp; omega)).trans ((World.cell?_setCell_other w3 _ _ _ (fun e => by simp only [Addr.mk.injEq] at e; omega)).trans ((hbu3.cell (p := ⟨g, o + i, none⟩) a1).trans (a2 i v hv)))⟩
          | j + 1, g1, g2 => simp at g1
      have HD0 := Lib.hid hD0
      have hbx : Below w.heap.size w ((w3.setCell ⟨go, numW u, none⟩ (.int .i64 0)).alloc (.cells #[.int .i64 (u.length : Int), .slice A u.length c] 24)) := (hbu3.setCell (p := ⟨go, numW u, none⟩) (by show w.heap.size ≤ go; omega) _).alloc (by simp; omega) _
      clear hD0 hon hon3 HOV HO hb hbu hru hbu3 hru3 k0 k1 hb3
      generalize numW u = nu at *
      have HNUM := Lib.hid (fun (V : List Nat) (hV : IsT V) (hl : V.length = u.length) (B : Option Addr) (b : Nat) W' hr => (by have := sNumber_any B b V W' hV hr; rwa [hl] at this :
        Calls Tryd.prog 33 #[.agg #[.int .i64 (u.length : Int), .slice B u.length b]] W' fun e w' => e = .returned (.int .i64 (numW V : Nat)) ∧ Below W'.heap.size W' w'))
      have HALL := Lib.hid (fun (V : List Nat) (hV : IsT V) (hl : V.length = u.length) (B : Option Addr) (b : Nat) W' hr => (by have := l04All_any B b V W' hV hr; rwa [hl] at this :
        Calls Tryd.prog 35 #[.agg #[.int .i64 (u.length : Int), .slice B u.length b]] W' (NewTable W' (triRows V))))
      have HREV := Lib.hid (fun (V : List Nat) (hV : IsT V) (hl : V.length = u.length) (B : Option Addr) (b : Nat) (A' : Option Addr) (c' x y z : Nat) W' hr hr' hx hy hz (ht : triN V x y z = true) => (by have := l04Reverse_any B b V A' c' x y z W' hV hr hr' hx hy hz (triN_ne hV ht).1 (triN_ne hV ht).2.1; rwa [hl] at this :
        Calls Tryd.prog 36 #[.agg #[.int .i64 (u.length : Int), .slice B u.length b], .slice A' 3 c'] W' (NewTour W' (u.length : Int) (casts (turnedW V x y z)))))
      have HKI := Lib.hid (fun pp => (bfs_ok (n := u.length) hT rfl pp).1)
      have HLEN := Lib.hid (fun (S : Known) (hS : KI u.length u S) => (by have := hS.len (by omega); rwa [HM.out] at this : S.length ≤ k))
      have HMM := Lib.hid HM.out
      have HFS := Lib.hid (fun pp h1 h2 => FS_is hT rfl h5 pp h1 h2)
      have hT0 := Lib.hid hT
      clear hNum hT h c0 c1
      go_wp2
      generalize hwx : (w3.setCell ⟨go, nu, none⟩ (.int .i64 0)).alloc (.cells #[.int .i64 (u.length : Int), .slice A u.length c] 24) = wx at *
      clear hwx
      go_loopw [5, 6] (fun v i wr => ∃ (pp gq oq cq : Nat) (hs : List (Option Addr × Nat)), Hid (DSt u.length go d gq oq cq hs (bfs u pp) (bfs u pp) wr) ∧ i = .int .i64 (pp : Int) ∧ v = .slice (some ⟨gq, oq, none⟩) hs.length cq ∧ pp ≤ hs.length ∧ hs.length ≤ k ∧ Below w.heap.size w wr) (fun _ i _ => k - (intOf i).toNat)
      case atStart => exact ⟨0, w3.heap.size, 0, 1, [(A, c)], HD0, rfl, rfl, Nat.zero_le _, hMle.2, hbx⟩
      case round =>
        clear HD0 hbx
        obtain ⟨pp, gq, oq, cq, hs, HD, rfl, rfl, hpl, hhl, hbr⟩ := hrel
        have hlen := HD.out.len
        by_cases hlt : pp < hs.length
        · have hpS : pp < (bfs u pp).length := by omega
          obtain ⟨⟨W, kk⟩, hWk⟩ : ∃ e, e = (bfs u pp)[pp] := ⟨_, rfl⟩
          have hSp : (bfs u pp)[pp]? = some (W, kk) := by rw [List.getElem?_eq_getElem hpS, ← hWk]
          have hki := HKI.out pp
          obtain ⟨hTW, hWl⟩ := hki.val (W, kk) (List.mem_of_getElem? hSp)
          have hdi : Hid (dI (bfs u pp) W = (kk : Int)) := Lib.hid (by unfold dI; rw [lookup_at hki.nd hSp])
          have hsm := hki.small pp W kk hSp
          obtain ⟨Ah, ch, _, x0, x1, hX⟩ := HD.out.row hSp
          have HX := Lib.hid hX
          have HN1 := Lib.hid (HNUM.out W hTW hWl Ah ch wr hX.row)
          have hnW : numW W < (outV u.length (bfs u pp)).length := outV_lt _ _ _ hWl
          have HAT := Lib.hid (outV_at u.length (bfs u pp) W hTW hWl hnW)
          have hgq := HD.out.q.lt
          have hgo := HD.out.lt
          have HKW := Lib.hid hki
          have HTW := Lib.hid hTW
          have HWL := Lib.hid hWl
          have HSP := Lib.hid hSp
          clear hX hki hTW hWl hSp hWk hlen
          go_wp2_with fail
          refine HN1.out.mono ?_
          rintro e w5 ⟨rfl, hb5⟩
          have HD5 := Lib.hid (HD.out.below hb5)
          have hz5 := hb5.size
          obtain ⟨g', e, _, _, hco, _⟩ := HD5.out.out.int (k := numW W) hnW
          simp only [Option.some.injEq, Addr.mk.injEq, and_true] at e
          subst e
          rw [HAT.out, hdi.out] at hco
          have hnM : numW W < k := by have h9 := hnW; rw [outV_length] at h9; have h10 := (HLEN.out _ HKW.out); have := HMM.out; omega
          have x0 := (hb5.cell (p := ⟨gq, oq + pp * 2, none⟩) hgq).trans x0
          have x1 := (hb5.cell (p := ⟨gq, oq + pp * 2 + 1, none⟩) hgq).trans x1
          have HX5 := Lib.hid (HX.out.below hb5)
          have HA1 := Lib.hid (HALL.out W HTW.out HWL.out Ah ch w5 HX5.out.row)
          clear HD HX HN1 HAT hdi hnW
          generalize numW W = nW at *
          go_wp2_with fail
          refine HA1.out.mono ?_
          rintro e w6 ⟨At, ct, rfl, hTb, hb6⟩
          have HD6 : Hid (DSt u.length go d gq oq cq hs (innK (bfs u pp) W kk 0) (innK (bfs u pp) W kk 0) w6) := Lib.hid (HD5.out.below hb6)
          have HTB := Lib.hid hTb
          have hz6 := hb6.size
          have hbr6 : Below w.heap.size w w6 := below_trans (below_trans hbr hb5) hb6
          have HINN := Lib.hid (fun j hj => HKW.out.inn HSP.out j hj)
          have HROW := Lib.hid (fun ts hts => triRows_mem W ts hts)
          have HSUC := Lib.hid (fun j hj => innK_succ (bfs u pp) W kk j hj)
          have HEND := Lib.hid (innK_end (bfs u pp) W kk pp HSP.out)
          have htl := triRows_le W (by rw [HWL.out]; omega)
          clear hTb HA1 x0 x1 HX5 hco hb5 hb6 hbr
          go_wp2
          go_loopw [5, 53] (fun v i wr => ∃ (j gq' oq' cq' : Nat) (hs' : List (Option Addr × Nat)), Hid (DSt u.length go d gq' oq' cq' hs' (innK (bfs u pp) W kk j) (innK (bfs u pp) W kk j) wr) ∧ i = .int .i64 (j : Int) ∧ v = .slice (some ⟨gq', oq', none⟩) hs'.length cq' ∧ j ≤ (triRows W).length ∧ hs'.length ≤ k ∧ (gq' = gq ∨ w6.heap.size ≤ gq') ∧ Hid (But3 go gq gq w6 wr) ∧ Below w.heap.size w wr) (fun _ i _ => (triRows W).length - (intOf i).toNat)
          case atStart => exact ⟨0, gq, oq, cq, hs, HD6, rfl, rfl, Nat.zero_le _, hhl, .inl rfl, Lib.hid (But3.refl _ _ _ _), hbr6⟩
          case round =>
            clear HD6 hbr6
            obtain ⟨j, gq', oq', cq', hs', HDj, rfl, rfl, hj, hhl', hgq', HB, hbr⟩ := hrel
            by_cases hjl : j < (triRows W).length
            · obtain ⟨hkj, hSj, _⟩ := HINN.out j hj
              have hSj2 := (HINN.out (j + 1) (by omega)).1
              obtain ⟨x, y, z, hx, hy, hz, hts, htr⟩ := HROW.out _ (List.getElem_mem hjl)
              have hszB := HB.out.size
              have hTw : Table wr wr.heap.size At (triRows W) := ((HTB.out.keep (fun g h1 h2 => HB.out.block g h2 (by omega) (by omega) (by omega))).table).mono hszB
              obtain ⟨bt', ot, A3, c3, eA, hbt, hct, hrt⟩ := hTw.at_ hjl
              subst eA
              rw [hts] at hct hrt
              obtain ⟨Ah, ch, hpl', x0, x1, hX⟩ := HDj.out.row hSj
              have HX := Lib.hid hX
              have HSU : Hid (innK (bfs u pp) W kk (j + 1) = addK (innK (bfs u pp) W kk j) (turnedW W x y z) (kk + 1)) := Lib.hid (by rw [HSUC.out j hjl, hts, turnL_tri])
              have hVT := turn_ok HTW.out hx hy hz htr
              have hVl : (turnedW W x y z).length = u.length := (turnedW_length W x y z).trans HWL.out
              have HRV := Lib.hid (HREV.out W HTW.out HWL.out Ah ch A3 c3 x y z wr hX.row hrt hx hy hz htr)
              have hnV : numW (turnedW W x y z) < (outV u.length (innK (bfs u pp) W kk j)).length := outV_lt _ _ _ hVl
              have HAV := Lib.hid (outV_at u.length (innK (bfs u pp) W kk j) (turnedW W x y z) hVT hVl hnV)
              have hnVk : numW (turnedW W x y z) < k := by have h9 := hnV; rw [outV_length] at h9; have := HMM.out; omega
              have HNV := Lib.hid (fun B b W' hr => HNUM.out (turnedW W x y z) hVT hVl B b W' hr)
              have hvl0 : 0 < (ints (casts (turnedW W x y z))).length := by rw [ints_length, casts_length, hVl]; omega
              have HVT := Lib.hid hVT
              have HVL := Lib.hid hVl
              have hcl := Lib.hid (show (casts (turnedW W x y z)).length = u.length by rw [casts_length, hVl])
              have HDN := Lib.hid (dI_neg (innK (bfs u pp) W kk j) (turnedW W x y z))
              have hgq2 := HDj.out.q.lt
              have hgo2 := HDj.out.lt
              clear hX hVT hVl hts hrt
              generalize turnedW W x y z = V at *
              generalize innK (bfs u pp) W kk j = S at *
              generalize hS2 : innK (bfs u pp) W kk (j + 1) = S2 at *
              have HSE := Lib.hid hS2
              clear hS2
              cases hkn : (S.lookup V).isSome with
              | true =>
                have HS2 : Hid (S2 = S) := Lib.hid (by rw [HSU.out, addK_old hkn])
                have hd : decide (dI S V < 0) = false := by rw [HDN.out, hkn]; rfl
                rw [HS2.out] at hSj2
                clear hkn HDN HSU hSj hkj hSj2
                obtain ⟨xv, hxv⟩ : ∃ xv, xv = dI S V := ⟨_, rfl⟩
                rw [← hxv] at hd HAV
                have hxn : ¬ xv < 0 := by simpa using hd
                clear hxv hd
                go_wp2_with fail
                refine HRV.out.mono ?_
                rintro e w7 ⟨Av, cv, rfl, ov, hb7⟩
                rw [hcl.out]
                have hz7 := hb7.size
                go_wp2_with fail
                refine (HNV.out Av cv _ (((ov.alloc (Nat.le_refl _) _).row).mono (by simp))).mono ?_
                rintro e w8 ⟨rfl, hb8⟩
                have hb78 : Below w7.heap.size w7 w8 := Below.trans (by go_grown) (hb8.mono (by simp))
                have hbr8 : Below wr.heap.size wr w8 := below_trans hb7 hb78
                have HD8 := Lib.hid (HDj.out.below hbr8)
                obtain ⟨g', e, _, _, hco, _⟩ := HD8.out.out.int (k := numW V) hnV
                simp only [Option.some.injEq, Addr.mk.injEq, and_true] at e
                subst e
                rw [HAV.out] at hco
                have HB8 := Lib.hid (HB.out.trans (But3.of_below hbr8))
                have hbrw : Below w.heap.size w w8 := below_trans hbr hbr8
                clear HDj HAV hnV HB hbr hb7 hb8 hb78 hbr8 HX hct x0 x1
                generalize numW V = nV at *
                go_wp2
                go_roundw
                case rel => exact ⟨j + 1, gq', oq', cq', hs', by rw [HSE.out, HS2.out]; exact HD8, by go_num, rfl, by omega, hhl', hgq', HB8, hbrw⟩
                case measure => simp [intOf]; omega
              | false =>
                have HS2 : Hid (S2 = S ++ [(V, kk + 1)]) := Lib.hid (by rw [HSU.out, addK_new hkn])
                have hd : decide (dI S V < 0) = true := by rw [HDN.out, hkn]; rfl
                have HKN := Lib.hid hkn
                have HL2 := Lib.hid (HLEN.out S2 hSj2)
                clear hkn HDN HSU hSj hkj hSj2
                obtain ⟨xv, hxv⟩ : ∃ xv, xv = dI S V := ⟨_, rfl⟩
                rw [← hxv] at hd HAV
                have hxn : xv < 0 := by simpa using hd
                clear hxv hd
                have hsl : hs'.length + 1 ≤ k := by
                  have h9 := HL2.out
                  rw [HS2.out, List.length_append] at h9
                  have := HDj.out.len
                  simp at h9
                  omega
                have hwk : IntKind.i64.wrap ((kk : Int) + 1) = (kk : Int) + 1 := by rw [IntKind.wrap_i64]; omega
                go_wp2_with fail
                refine HRV.out.mono ?_
                rintro e w7 ⟨Av, cv, rfl, ov, hb7⟩
                rw [hcl.out]
                have hz7 := hb7.size
                have hXV := rowX_own (a := go) (b := gq') ov hvl0 (by omega) (by omega)
                go_wp2_with fail
                refine (HNV.out Av cv _ (((ov.alloc (Nat.le_refl _) _).row).mono (by simp))).mono ?_
                rintro e w8 ⟨rfl, hb8⟩
                have hb78 : Below w7.heap.size w7 w8 := Below.trans (by go_grown) (hb8.mono (by simp))
                have hbr8 : Below wr.heap.size wr w8 := below_trans hb7 hb78
                have y0 : w8.cell? ⟨w7.heap.size, 0, none⟩ = some (.int .i64 (u.length : Int)) := (hb8.cell (p := ⟨w7.heap.size, 0, none⟩) (by simp)).trans (by go_simp)
                have y1 : w8.cell? ⟨w7.heap.size, 1, none⟩ = some (.slice Av u.length cv) := (hb8.cell (p := ⟨w7.heap.size, 1, none⟩) (by simp)).trans (by go_simp)
                have HD8 := Lib.hid (HDj.out.below hbr8)
                obtain ⟨g', e, _, _, hco, _⟩ := HD8.out.out.int (k := numW V) hnV
                simp only [Option.some.injEq, Addr.mk.injEq, and_true] at e
                subst e
                rw [HAV.out] at hco
                have HXV8 := Lib.hid (hXV.below hb78)
                have HB8 := Lib.hid (HB.out.trans (But3.of_below hbr8))
                have hbrw : Below w.heap.size w w8 := below_trans hbr hbr8
                have hz8 := hb78.size
                have hzb := (World.block_lt_of_cell? w8 _ y0 : w7.heap.size < w8.heap.size)
                clear HDj HAV HB hbr hb7 hb8 hb78 hbr8 HX hct x0 x1 hXV ov
                go_wp2_with fail
                refine (HNV.out Av cv _ HXV8.out.row).mono ?_
                rintro e w9 ⟨rfl, hb9⟩
                have HD9 := Lib.hid (HD8.out.below hb9)
                obtain ⟨g', e, _, _, hco, hcf⟩ := HD9.out.out.int (k := numW V) hnV
                simp only [Option.some.injEq, Addr.mk.injEq, and_true] at e
                subst e
                have y0 := (hb9.cell (p := ⟨w7.heap.size, 0, none⟩) hzb).trans y0
                have y1 := (hb9.cell (p := ⟨w7.heap.size, 1, none⟩) hzb).trans y1
                have hz9 := hb9.size
                have y0' : (w9.setCell ⟨go, numW V, none⟩ (.int .i64 ((kk : Int) + 1))).cell? ⟨w7.heap.size, 0, none⟩ = some (.int .i64 (u.length : Int)) := (World.cell?_setCell_other w9 _ _ _ (fun e => by simp only [Addr.mk.injEq] at e; omega)).trans y0
                have y1' : (w9.setCell ⟨go, numW V, none⟩ (.int .i64 ((kk : Int) + 1))).cell? ⟨w7.heap.size, 1, none⟩ = some (.slice Av u.length cv) := (World.cell?_setCell_other w9 _ _ _ (fun e => by simp only [Addr.mk.injEq] at e; omega)).trans y1
                have HDP : Hid (DSt u.length go d gq' oq' cq' hs' (S ++ [(V, kk + 1)]) S (w9.setCell ⟨go, numW V, none⟩ (.int .i64 ((kk : Int) + 1)))) := Lib.hid (HD9.out.put (V := V) (k := kk + 1) HVT.out HVL.out (by omega) HKN.out)
                have HXVP : Hid (RowX (w9.setCell ⟨go, numW V, none⟩ (.int .i64 ((kk : Int) + 1))) go gq' Av (ints (casts V))) := Lib.hid ((HXV8.out.below hb9).keep (by simp) (fun g _ ha _ => Below.heap_setCell w9 _ _ g ha))
                have HBP : Hid (But3 go gq gq w6 (w9.setCell ⟨go, numW V, none⟩ (.int .i64 ((kk : Int) + 1)))) := Lib.hid ((HB8.out.trans (But3.of_below hb9)).setCell (p := ⟨go, numW V, none⟩) (.inl rfl) _)
                have hbP : Below w.heap.size w (w9.setCell ⟨go, numW V, none⟩ (.int .i64 ((kk : Int) + 1))) := (below_trans hbrw hb9).setCell (p := ⟨go, numW V, none⟩) (by show w.heap.size ≤ go; omega) _
                clear HD8 HD9 HXV8 HB8 hbrw hb9
                generalize numW V = nV at *
                go_wp2_with (at_builtin; refine wpList_pushQ rfl (.tmp 75) (.tmp 77) rfl gq' oq' cq' u.length hs'.length w9.heap.size cv Av hs' rfl rfl rfl ?c0 ?c1 ?c2 (by omega) ?_)
                case c0 => exact HDP.out.q.keep (Below.heap_alloc _ _ _ (by simp; omega))
                case c1 => go_simp
                case c2 => go_simp
                intro g2 o2 c2 w10 hQ hg2 hO
                have HDF : Hid (DSt u.length go d g2 o2 c2 (hs' ++ [(Av, cv)]) (S ++ [(V, kk + 1)]) (S ++ [(V, kk + 1)]) w10) := Lib.hid ((HDP.out.below ((Below.refl _ _).alloc (Nat.le_refl _) _)).push hQ (by rcases hg2 with e | e <;> first | exact .inl e | (right; simp; omega)) hO (HXVP.out.below ((Below.refl _ _).alloc (Nat.le_refl _) _)))
                have HBF : Hid (But3 go gq gq w6 w10) := Lib.hid ((HBP.out.trans (But3.of_below ((Below.refl _ _).alloc (Nat.le_refl _) _))).onlyQ hO hgq')
                have hbF : Below w.heap.size w w10 := below_only (hbP.alloc (by simp; omega) _) hO (by omega) (by simp; omega)
                clear HDP HBP hbP HXVP hQ hO
                go_wp2
                go_roundw
                case rel => exact ⟨j + 1, g2, o2, c2, hs' ++ [(Av, cv)], by rw [HSE.out, HS2.out]; exact HDF, by go_num, by simp, by omega, by simp; omega, by rcases hgq' with e | e <;> rcases hg2 with e2 | e2 <;> first | (left; omega) | (right; omega), HBF, hbF⟩
                case measure => simp [intOf]; omega
            · obtain rfl : j = (triRows W).length := by omega
              have HDE : Hid (DSt u.length go d gq' oq' cq' hs' (bfs u (pp + 1)) (bfs u (pp + 1)) wr) := Lib.hid (by rw [bfs, ← HEND.out]; exact HDj.out)
              have hpn : pp + 1 ≤ hs'.length := by
                have h9 := HDj.out.len
                have h10 := (HINN.out _ (Nat.le_refl _)).2.1
                have := (List.getElem?_eq_some_iff.1 h10).1
                omega
              clear HDj
              go_wp2
              go_roundw
              case rel => exact ⟨pp + 1, gq', oq', cq', hs', HDE, by go_num, rfl, hpn, hhl', hbr⟩
              case measure => simp [intOf]; omega
        · obtain rfl : pp = hs.length := by omega
          have HF := Lib.hid (HFS.out hs.length (by omega) (by omega))
          have hout := HD.out.out
          rw [← HF.out] at hout
          have HOU := Lib.hid hout
          have hgo2 := HD.out.lt
          have hgq2 := HD.out.q.lt
          clear hout HD hlen
          go_wp2
          go_ret
          exact ⟨some ⟨go, 0, none⟩, d, ret_slice (by rw [outV_length, HMM.out]), HOU.out.mono (by omega) (by omega), hbr⟩
end Go.Proofs.YtaocjjocncoahaaDoor
