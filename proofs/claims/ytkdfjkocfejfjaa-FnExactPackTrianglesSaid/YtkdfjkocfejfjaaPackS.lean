/- PackTriangles, the reference's, walked (printed by tools/pack.py). -/
import Derived.Test.YtkdfjkocfejfjaaPackI
import Derived.Test.YtkdfjkocfejfjaaScore
import Derived.Test.YtkdfjkocfejfjaaTourOf
namespace Go.Proofs.Ytkdfjkocfejfjaa
open Go.RowKit

theorem or_pow2 (k y : Nat) (h : k < 8) (hy : y < 256) : bits .or .i64 (y : Int) ((2 : Int) ^ k) = ((y ||| 2 ^ k : Nat) : Int) := by
  have := pow_small k h
  rw [pow_cast] at *
  rw [or_nat _ _ (by omega) (by omega)]
theorem or_pow_lt (k y : Nat) (h : k < 8) (hy : y < 256) : y ||| 2 ^ k < 256 := Nat.or_lt_two_pow (n := 8) hy (Nat.pow_lt_pow_right (by omega) h)
theorem KeepBut.store {w w' : World} {g : Nat} (h : KeepBut (some ⟨g, 0, Option.none⟩) w w') (i : Nat) (u : Value) : KeepBut (some ⟨g, 0, Option.none⟩) w (w'.setCell ⟨g, i, Option.none⟩ u).drew :=
  ⟨h.os, h.tape, h.output, by simpa using h.size, fun q hq hne => (Below.heap_setCell w' ⟨g, i, Option.none⟩ u q (by intro e; subst e; exact hne rfl)).trans (h.block q hq hne)⟩
theorem Row.but {w w' : World} {g lo hi : Nat} {t : TypeId} {A : Option Addr} {c : Nat} {vs : List Value} (ho : Own w lo hi t A c vs) (h : KeepBut (some ⟨g, 0, none⟩) w w') (hhi : hi ≤ w.heap.size) (hg : g < lo ∨ hi ≤ g) : Own w' lo hi t A c vs :=
  ho.keep fun q h1 h2 => h.block q (by omega) (by intro e; simp only [Option.some.injEq, Addr.mk.injEq, and_true] at e; omega)
theorem UsOk_get {n : Nat} {os : List (List Int)} {U : List Nat} (h : UsOk n os U) {i : Nat} (hi : i < n) (hi' : i < U.length) : U[i] < 256 := by
  have := (h.2 i hi).1
  rwa [getD_lt _ _ _ hi'] at this
theorem add1_lt {U : List Nat} {a b c i : Nat} (h : ∀ j (hj : j < U.length), U[j] < 256) (ha : a < U.length) (hb : b < 8) (hc : c < 8) (hi : i < (add1 U a b c).length) : (add1 U a b c)[i] < 256 := by
  have e := add1_getD U a b c i ha
  rw [getD_lt _ _ _ hi] at e
  rw [e]
  split
  · rw [getD_lt _ _ _ ha]
    exact or_pow_lt c _ hc (or_pow_lt b _ hb (h a ha))
  · rw [add1_length] at hi
    rw [getD_lt _ _ _ hi]
    exact h i hi
set_option maxHeartbeats 4000000 in
set_option maxRecDepth 20000 in
theorem sPackTriangles_any (A : Option Addr) (c : Nat) (s : Int) (zs : List Int) (w : World) (h : Row w w.heap.size A (ints zs)) (hl : zs.length ≤ 1099511627776) :
    Calls Try.prog 43 #[.agg #[.int .i64 s, .slice A zs.length c]] w (NewTable w (rPackTriangles s zs)) := by
  cases ho : okB s zs with
  | false =>
    have N : Hid (rPackTriangles s zs = []) := Lib.hid (by unfold rPackTriangles rTrianglesOf; rw [ho]; rfl)
    have HO := Lib.hid ho
    clear ho
    go_enter Try.func43, Try.ntmps43
    go_wp2_with fail
    refine (sTourOk_any A c s zs _ (h.rowAt (by go_grown) (Nat.le_refl _)) hl).mono ?_
    rw [HO.out]
    rintro e w1 ⟨rfl, hb⟩
    obtain ⟨k0, k1, hbw, hsz⟩ := box1 hb
    clear hb
    go_wp2
    go_ret
    exact newTable_none N.out hbw
  | true =>
    obtain ⟨W, rfl, rfl, hT⟩ := ok_tour ho
    have R : Hid (rPackTriangles (W.length : Int) (casts W) = pkL (triRows W) (triRows W).length) := Lib.hid (by unfold rPackTriangles rTrianglesOf; rw [ho, toW_casts]; rfl)
    have g1 := hT.h1
    have g8 := hT.h8
    rw [casts_length, R.out]
    clear R ho hl
    have t1 := triRows_le W g8
    have HTM := Lib.hid (fun r (hr : r ∈ triRows W) => triRows_mem W r hr)
    have HSF := Lib.hid hT.self
    go_enter Try.func43, Try.ntmps43
    go_wp2_with fail
    refine (sTourOkW A c W _ hT (h.rowAt (by go_grown) (Nat.le_refl _))).mono ?_
    rintro e w1 ⟨rfl, hb⟩
    obtain ⟨k0, k1, hbw, hsz⟩ := box1 hb
    have h := h.rowAt hbw (Nat.le_refl _)
    clear hb
    have hmk := fun W' => make_ints W.length (by omega) W'
    have d0 : (w1.alloc (.cells #[] 22)).cell? ⟨w.heap.size, 0, none⟩ = some (.int .i64 (W.length : Int)) := (World.cell?_alloc_lt w1 _ ⟨w.heap.size, 0, none⟩ (by show w.heap.size < _; omega)).trans k0
    have d1 : (w1.alloc (.cells #[] 22)).cell? ⟨w.heap.size, 1, none⟩ = some (.slice A W.length c) := (World.cell?_alloc_lt w1 _ ⟨w.heap.size, 1, none⟩ (by show w.heap.size < _; omega)).trans k1
    have e0 : ((w1.alloc (.cells #[] 22)).alloc (.cells (madeCells #[.int .i64 0] W.length) 3)).cell? ⟨w.heap.size, 0, none⟩ = some (.int .i64 (W.length : Int)) := (World.cell?_alloc_lt _ _ ⟨w.heap.size, 0, none⟩ (by simp; omega)).trans d0
    have e1 : ((w1.alloc (.cells #[] 22)).alloc (.cells (madeCells #[.int .i64 0] W.length) 3)).cell? ⟨w.heap.size, 1, none⟩ = some (.slice A W.length c) := (World.cell?_alloc_lt _ _ ⟨w.heap.size, 1, none⟩ (by simp; omega)).trans d1
    go_wp2_with fail
    refine (l04All_any A c W _ hT (h.rowAt (by go_grown) (Nat.le_refl _))).mono ?_
    rintro e w3 ⟨A1, c1, rfl, hoT, hb⟩
    have hO0 : Own w3 w1.heap.size (w1.heap.size + 1) 22 (some ⟨w1.heap.size, 0, none⟩) 0 [] := by
      have hm := Own.made w1 w1.heap.size 22 #[] (Nat.le_refl _) (by simp)
      exact (hm.alloc (by simp) _).below hb (by simp)
    have hU0 : Own w3 (w1.heap.size + 1) (w1.heap.size + 1 + 1) 3 (some ⟨w1.heap.size + 1, 0, none⟩) W.length (ints (casts (List.replicate W.length 0))) := by
      have hm := own_made (w1.alloc (.cells #[] 22)) (w1.heap.size + 1) W.length (by simp) (by omega)
      rw [World.size_alloc] at hm
      have e : ints (casts (List.replicate W.length 0)) = ints (List.replicate W.length 0) := by simp [casts]
      rw [e]
      exact hm.below hb (by simp)
    have hbw3 : Below w.heap.size w w3 := hbw.trans ((((Below.refl _ _).alloc (by omega) _).alloc (by simp; omega) _).trans (hb.mono (by simp; omega)))
    have hz3 : w1.heap.size + 2 ≤ w3.heap.size := by have := hb.size; simp at this; omega
    obtain ⟨hs, hse, hout, hinn⟩ := hoT
    have hinn := hinn.mono (show w1.heap.size + 2 ≤ _ by simp) (Nat.le_refl _)
    have hrow := (hout.mono (show w1.heap.size + 2 ≤ _ by simp) (Nat.le_refl _))
    have HE := Lib.hid hse
    have hle : hs.length ≤ (triRows W).length ∧ (triRows W).length ≤ hs.length := by omega
    have HU0 := Lib.hid hU0
    have HO0 := Lib.hid hO0
    clear hb hse hout h k0 k1 hmk hU0 hO0 d0 d1 e0 e1
    generalize triRows W = rs at *
    have HI := Lib.hid hinn
    have HW := Lib.hid hrow
    clear hinn hrow
    obtain ⟨gu, hgu⟩ : ∃ gu, gu = w1.heap.size + 1 := ⟨_, rfl⟩
    have hgu1 : w1.heap.size < gu := by omega
    have hgu2 : gu + 1 ≤ w3.heap.size := by omega
    have HWI : Hid (Own w3 (gu + 1) w3.heap.size 22 A1 c1 (rowVs hs rs)) := Lib.hid (HW.out.mono (by omega) (Nat.le_refl _))
    have HII : Hid (Inner w3 (gu + 1) w3.heap.size hs rs) := Lib.hid (HI.out.mono (by omega) (Nat.le_refl _))
    have HOO : Hid (Own w3 w1.heap.size gu 22 (some ⟨w1.heap.size, 0, none⟩) 0 []) := Lib.hid (HO0.out.mono (Nat.le_refl _) (by omega))
    have HU1 : Hid (Own w3 gu (gu + 1) 3 (some ⟨gu, 0, none⟩) W.length (ints (casts (List.replicate W.length 0)))) := Lib.hid (by rw [hgu]; exact HU0.out)
    rw [← hgu]
    clear HW HI HO0 hz3 hgu hle HU0
    have hlen1 : hs.length ≤ rs.length ∧ rs.length ≤ hs.length := by have := HE.out; omega
    go_wp2
    go_loopw [3, 20] (fun v i wr => ∃ (k n d lo hi : Nat) (B : Option Addr) (U : List Nat), k ≤ rs.length ∧ i = .int .i64 (k : Int) ∧ v = .slice B n d ∧ Hid (n = (pkL rs k).length) ∧ n ≤ k ∧ Hid (UsOk W.length (pkL rs k) U) ∧ w1.heap.size ≤ lo ∧ (d = 0 ∨ w3.heap.size ≤ lo) ∧ (hi ≤ gu ∨ gu < lo) ∧ hi ≤ wr.heap.size ∧ lo ≤ wr.heap.size ∧ Own wr lo hi 22 B d (pkV hs rs k) ∧ Own wr gu (gu + 1) 3 (some ⟨gu, 0, none⟩) W.length (ints (casts U)) ∧ KeepBut (some ⟨gu, 0, none⟩) w3 wr) (fun _ i _ => rs.length - (intOf i).toNat)
    case atStart => exact ⟨0, 0, 0, w1.heap.size, gu, _, _, Nat.zero_le _, rfl, rfl, Lib.hid rfl, Nat.le_refl _, Lib.hid (UsOk_zero _), Nat.le_refl _, .inl rfl, .inl (Nat.le_refl _), by omega, by omega, HOO.out, HU1.out, KeepBut.refl _ _⟩
    case round =>
      clear HOO HU1
      obtain ⟨k, n, d, lo, hi, B, U, hk, rfl, rfl, HN, hn, HUS, hlo, hor, hgo, hhi, hlo2, ho, hU, hb⟩ := hrel
      have HO := Lib.hid ho
      have HU := Lib.hid hU
      have HOR := Lib.hid hor
      have HGO := Lib.hid hgo
      clear hor hgo
      have hUl := HUS.out.1
      have hUl2 : U.length ≤ W.length ∧ W.length ≤ U.length := by omega
      have HB := Lib.hid hb
      have hwr := hb.size
      clear ho hU hUl hb
      by_cases hlt : k < rs.length
      · have hlh : k < hs.length := by omega
        obtain ⟨b, off, eA, hbB, hcells⟩ := HWI.out.row (by rw [rowVs_length _ _ HE.out]; omega)
        obtain ⟨g1, eg1, hg1, _⟩ : ∃ g, A1 = some ⟨g, 0, none⟩ ∧ gu + 1 ≤ g ∧ g < w3.heap.size := by
          rcases own_block HWI.out with h6 | h6
          · rw [h6] at eA; cases eA
          · exact h6
        rw [eg1] at eA
        simp only [Option.some.injEq, Addr.mk.injEq, and_true] at eA
        obtain ⟨rfl, rfl⟩ := eA
        subst eg1
        have hcell : wr.cell? ⟨g1, 0 + k, none⟩ = some (.slice hs[k].1 rs[k].length hs[k].2) := by
          have hx := hcells k _ (rowVs_get hs rs k hlh hlt)
          have hh := HB.out.block g1 hbB (by intro e; simp only [Option.some.injEq, Addr.mk.injEq, and_true] at e; omega)
          rw [← hx]
          unfold World.cell?
          rw [hh]
        rw [Nat.zero_add] at hcell
        have hlrow : Own wr (gu + 1) w3.heap.size 3 hs[k].1 hs[k].2 (ints rs[k]) := Row.but (HII.out.1 k hlh hlt) HB.out (Nat.le_refl _) (.inl (by omega))
        obtain ⟨a, b, x, ha, hb', hx', er, htri⟩ := HTM.out _ (List.getElem_mem hlt)
        have hfa : a ≠ b ∧ b ≠ x ∧ a ≠ x := by
          unfold triN at htri
          simp only [Bool.and_eq_true, decide_eq_true_eq] at htri
          refine ⟨by omega, ?_, by omega⟩
          intro e
          subst e
          have := HSF.out b
          simp_all
        obtain ⟨hab, hbx, hax⟩ := hfa
        have HG : Hid (rs.getD k [] = tri3 a b x) := Lib.hid ((getD_lt _ _ _ hlt).trans er)
        have HTS : Hid (tri3 a b x = rs[k]) := Lib.hid er.symm
        have hsm : ∀ r ∈ pkL rs k, sT r < 256 := by
          intro r hr
          obtain ⟨a', b', x', p1, p2, p3, e', _⟩ := HTM.out r (pkL_sub rs k hk r hr)
          rw [e']
          exact sT_lt a' b' x' (by omega) (by omega) (by omega)
        have hmeets := used_meets W.length (pkL rs k) U a b x HUS.out g8 ha hb' hx' hab hbx hax hsm
        rw [getD_lt _ _ _ (show a < U.length by omega), getD_lt _ _ _ (show b < U.length by omega)] at hmeets
        have HME := Lib.hid hmeets
        have HMT := Lib.hid (fun h => pk_meets hs rs k h)
        have HNW := Lib.hid (fun h => pk_new hs rs k h hlh hlt)
        have HAD := Lib.hid (UsOk_add W.length (pkL rs k) U a b x HUS.out g8 ha hb' hx' hab hbx hax)
        rw [er] at hlrow hcell
        clear er htri hsm hmeets hcells
        obtain ⟨b2, off2, eq2, hb2B, hc0, hc1, hc2⟩ := hlrow.row.three
        have hca : wr.cell? ⟨gu, a, none⟩ = some (.int .i64 ((U[a]'(by omega) : Nat) : Int)) ∧ wr.cell? ⟨gu, b, none⟩ = some (.int .i64 ((U[b]'(by omega) : Nat) : Int)) := by
          obtain ⟨g', e1, _, _, f1, _⟩ := HU.out.nat (k := a) (by omega)
          obtain ⟨g'', e2, _, _, f2, _⟩ := HU.out.nat (k := b) (by omega)
          simp only [Option.some.injEq, Addr.mk.injEq, and_true] at e1 e2
          subst e1 e2
          exact ⟨f1, f2⟩
        obtain ⟨hca, hcb⟩ := hca
        have xa : U[a] < 256 := UsOk_get HUS.out ha (by omega)
        have xb : U[b] < 256 := UsOk_get HUS.out hb' (by omega)
        have T1 := bit_test U[a] b (by omega)
        have T2 := bit_test U[b] x (by omega)
        have T3 := bit_test U[a] x (by omega)
        have i1 : (0 : Int) ≤ (a : Int) ∧ (a : Int) < (W.length : Int) := by omega
        have i2 : (0 : Int) ≤ (b : Int) ∧ (b : Int) < (W.length : Int) := by omega
        have i3 : (0 : Int) ≤ (x : Int) ∧ (x : Int) < (W.length : Int) := by omega
        obtain ⟨i1, i1'⟩ := i1
        obtain ⟨i2, i2'⟩ := i2
        obtain ⟨i3, i3'⟩ := i3
        have hl3 : (tri3 a b x).length = 3 := rfl
        rw [hl3] at hcell
        rw [eq2] at hcell
        have EQ2 := Lib.hid eq2
        have HLR := Lib.hid hlrow
        clear hlrow eq2 hl3
        have hcase : ((U[a].testBit b || U[b].testBit x || U[a].testBit x) = true) ∨ (U[a].testBit b = false ∧ U[b].testBit x = false ∧ U[a].testBit x = false) := by
          cases U[a].testBit b <;> cases U[b].testBit x <;> cases U[a].testBit x <;> simp
        rcases hcase with hyes | ⟨n1, n2, n3⟩
        · have HY := Lib.hid hyes
          have hp : (U[a].testBit b = true) ∨ (U[a].testBit b = false ∧ U[b].testBit x = true) ∨ (U[a].testBit b = false ∧ U[b].testBit x = false ∧ U[a].testBit x = true) := by
            revert hyes
            cases U[a].testBit b <;> cases U[b].testBit x <;> cases U[a].testBit x <;> simp
          obtain ⟨e1, e2⟩ := HMT.out (by rw [HG.out, ← HME.out]; exact hyes)
          have E1 := Lib.hid e1
          have E2 := Lib.hid e2
          clear hyes e1 e2 HMT HNW HAD HME
          rcases hp with m1 | ⟨m1, m2⟩ | ⟨m1, m2, m3⟩
          · rw [m1] at T1
            clear m1 T2 T3
            generalize U[a] = ua at *
            generalize U[b] = ub at *
            go_wp2
            go_roundw
            case rel => exact ⟨k + 1, n, d, lo, hi, B, U, by omega, by go_num, rfl, Lib.hid (by rw [E1.out]; exact HN.out), by omega, Lib.hid (by rw [E1.out]; exact HUS.out), hlo, HOR.out, HGO.out, hhi, hlo2, (by rw [E2.out]; exact HO.out), HU.out, HB.out⟩
            case measure => simp [intOf]; omega
          · rw [m1] at T1
            rw [m2] at T2
            clear m1 m2 T3
            generalize U[a] = ua at *
            generalize U[b] = ub at *
            go_wp2
            go_roundw
            case rel => exact ⟨k + 1, n, d, lo, hi, B, U, by omega, by go_num, rfl, Lib.hid (by rw [E1.out]; exact HN.out), by omega, Lib.hid (by rw [E1.out]; exact HUS.out), hlo, HOR.out, HGO.out, hhi, hlo2, (by rw [E2.out]; exact HO.out), HU.out, HB.out⟩
            case measure => simp [intOf]; omega
          · rw [m1] at T1
            rw [m2] at T2
            rw [m3] at T3
            clear m1 m2 m3
            generalize U[a] = ua at *
            generalize U[b] = ub at *
            go_wp2
            go_roundw
            case rel => exact ⟨k + 1, n, d, lo, hi, B, U, by omega, by go_num, rfl, Lib.hid (by rw [E1.out]; exact HN.out), by omega, Lib.hid (by rw [E1.out]; exact HUS.out), hlo, HOR.out, HGO.out, hhi, hlo2, (by rw [E2.out]; exact HO.out), HU.out, HB.out⟩
            case measure => simp [intOf]; omega
        · have hno : (pkL rs k).any (meetB (rs.getD k [])) = false := by rw [HG.out, ← HME.out, n1, n2, n3]; rfl
          obtain ⟨e1, e2⟩ := HNW.out hno
          have E1 := Lib.hid e1
          have E2 := Lib.hid e2
          rw [n1] at T1
          rw [n2] at T2
          rw [n3] at T3
          clear hno e1 e2 n1 n2 n3 HMT HNW HME
          have hUall : ∀ j (hj : j < U.length), U[j] < 256 := fun j hj => UsOk_get HUS.out (by omega) hj
          have HL1 := Lib.hid (fun i hi => add1_lt (a := a) (b := b) (c := x) (i := i) hUall (by omega) (by omega) (by omega) hi)
          have HL2 := Lib.hid (fun i hi => add1_lt (U := add1 U a b x) (a := b) (b := a) (c := x) (i := i) (fun j hj => HL1.out j hj) (by rw [add1_length]; omega) (by omega) (by omega) hi)
          clear hUall
          obtain ⟨p1, p1'⟩ := pow_small a (by omega)
          obtain ⟨p2, p2'⟩ := pow_small b (by omega)
          obtain ⟨p3, p3'⟩ := pow_small x (by omega)
          have hw1 : IntKind.i64.wrap (2 ^ a) = 2 ^ a := by rw [IntKind.wrap_i64]; omega
          have hw2 : IntKind.i64.wrap (2 ^ b) = 2 ^ b := by rw [IntKind.wrap_i64]; omega
          have hw3 : IntKind.i64.wrap (2 ^ x) = 2 ^ x := by rw [IntKind.wrap_i64]; omega
          have hu1 : a < (U).length := by first | omega | (rw [add1_length]; omega) | (rw [add1_length, add1_length]; omega)
          obtain ⟨g11, eg1, _, _, hs1, fs1⟩ := HU.out.nat hu1
          simp only [Option.some.injEq, Addr.mk.injEq, and_true] at eg1
          subst eg1
          have y1 : (U)[a]'hu1 < 256 := xa
          have EA1 := or_pow2 b ((U)[a]'hu1) (by omega) y1
          have y1' := or_pow_lt b ((U)[a]'hu1) (by omega) y1
          have EB1 := or_pow2 x ((U)[a]'hu1 ||| 2 ^ b) (by omega) y1'
          have hset1 := HU.out.set a (.int .i64 (((U)[a]'hu1 ||| 2 ^ b ||| 2 ^ x : Nat) : Int))
          rw [ints_casts_set, show (U).set a ((U)[a]'hu1 ||| 2 ^ b ||| 2 ^ x) = add1 U a b x by (show _ = (U).set a ((U).getD a 0 ||| 2 ^ b ||| 2 ^ x)); rw [getD_lt _ _ _ hu1]] at hset1
          have HSET1 := Lib.hid hset1
          clear hset1
          generalize (U)[a]'hu1 ||| 2 ^ b ||| 2 ^ x = v1 at *
          generalize (U)[a]'hu1 ||| 2 ^ b = u1 at *
          go_wp2
          go_region
          obtain ⟨wq1, hw1q⟩ : ∃ W', W' = (wr.setCell ⟨gu, a, none⟩ (.int .i64 (v1 : Int))).drew := ⟨_, rfl⟩
          rw [← hw1q]
          have HU1 : Hid (Own wq1 gu (gu + 1) 3 (some ⟨gu, 0, none⟩) W.length (ints (casts (add1 U a b x)))) := Lib.hid (by rw [hw1q]; exact HSET1.out.drew)
          have HB1 : Hid (KeepBut (some ⟨gu, 0, none⟩) w3 wq1) := Lib.hid (by rw [hw1q]; exact HB.out.store _ _)
          have HO1 : Hid (Own wq1 lo hi 22 B d (pkV hs rs k)) := Lib.hid (by rw [hw1q]; exact (HO.out.setCell (p := ⟨gu, a, none⟩) (by have := HGO.out; show gu < lo ∨ hi ≤ gu; omega) _).drew)
          have hz1 : wq1.heap.size = wr.heap.size := by rw [hw1q]; simp
          have HZ1 := Lib.hid hz1
          have hzl1 : wq1.heap.size ≤ wr.heap.size ∧ wr.heap.size ≤ wq1.heap.size := by omega
          clear hw1q hz1 hs1 fs1 EA1 EB1 HSET1 hca hcb T1 T2 T3 hcell hc0 hc1 hc2
          have hu2 : b < (add1 U a b x).length := by first | omega | (rw [add1_length]; omega) | (rw [add1_length, add1_length]; omega)
          obtain ⟨g12, eg2, _, _, hs2, fs2⟩ := HU1.out.nat hu2
          simp only [Option.some.injEq, Addr.mk.injEq, and_true] at eg2
          subst eg2
          have y2 : (add1 U a b x)[b]'hu2 < 256 := (HL1.out _ hu2)
          have EA2 := or_pow2 a ((add1 U a b x)[b]'hu2) (by omega) y2
          have y2' := or_pow_lt a ((add1 U a b x)[b]'hu2) (by omega) y2
          have EB2 := or_pow2 x ((add1 U a b x)[b]'hu2 ||| 2 ^ a) (by omega) y2'
          have hset2 := HU1.out.set b (.int .i64 (((add1 U a b x)[b]'hu2 ||| 2 ^ a ||| 2 ^ x : Nat) : Int))
          rw [ints_casts_set, show (add1 U a b x).set b ((add1 U a b x)[b]'hu2 ||| 2 ^ a ||| 2 ^ x) = add1 (add1 U a b x) b a x by (show _ = (add1 U a b x).set b ((add1 U a b x).getD b 0 ||| 2 ^ a ||| 2 ^ x)); rw [getD_lt _ _ _ hu2]] at hset2
          have HSET2 := Lib.hid hset2
          clear hset2
          generalize (add1 U a b x)[b]'hu2 ||| 2 ^ a ||| 2 ^ x = v2 at *
          generalize (add1 U a b x)[b]'hu2 ||| 2 ^ a = u2 at *
          generalize (add1 U a b x)[b]'hu2 = z2 at *
          go_wp2
          go_region
          obtain ⟨wq2, hw2q⟩ : ∃ W', W' = (wq1.setCell ⟨gu, b, none⟩ (.int .i64 (v2 : Int))).drew := ⟨_, rfl⟩
          rw [← hw2q]
          have HU2 : Hid (Own wq2 gu (gu + 1) 3 (some ⟨gu, 0, none⟩) W.length (ints (casts (add1 (add1 U a b x) b a x)))) := Lib.hid (by rw [hw2q]; exact HSET2.out.drew)
          have HB2 : Hid (KeepBut (some ⟨gu, 0, none⟩) w3 wq2) := Lib.hid (by rw [hw2q]; exact HB1.out.store _ _)
          have HO2 : Hid (Own wq2 lo hi 22 B d (pkV hs rs k)) := Lib.hid (by rw [hw2q]; exact (HO1.out.setCell (p := ⟨gu, b, none⟩) (by have := HGO.out; show gu < lo ∨ hi ≤ gu; omega) _).drew)
          have hz2 : wq2.heap.size = wq1.heap.size := by rw [hw2q]; simp
          have HZ2 := Lib.hid hz2
          have hzl2 : wq2.heap.size ≤ wq1.heap.size ∧ wq1.heap.size ≤ wq2.heap.size := by omega
          clear hw2q hz2 hs2 fs2 EA2 EB2 HSET2 
          have hu3 : x < (add1 (add1 U a b x) b a x).length := by first | omega | (rw [add1_length]; omega) | (rw [add1_length, add1_length]; omega)
          obtain ⟨g13, eg3, _, _, hs3, fs3⟩ := HU2.out.nat hu3
          simp only [Option.some.injEq, Addr.mk.injEq, and_true] at eg3
          subst eg3
          have y3 : (add1 (add1 U a b x) b a x)[x]'hu3 < 256 := (HL2.out _ hu3)
          have EA3 := or_pow2 a ((add1 (add1 U a b x) b a x)[x]'hu3) (by omega) y3
          have y3' := or_pow_lt a ((add1 (add1 U a b x) b a x)[x]'hu3) (by omega) y3
          have EB3 := or_pow2 b ((add1 (add1 U a b x) b a x)[x]'hu3 ||| 2 ^ a) (by omega) y3'
          have hset3 := HU2.out.set x (.int .i64 (((add1 (add1 U a b x) b a x)[x]'hu3 ||| 2 ^ a ||| 2 ^ b : Nat) : Int))
          rw [ints_casts_set, show (add1 (add1 U a b x) b a x).set x ((add1 (add1 U a b x) b a x)[x]'hu3 ||| 2 ^ a ||| 2 ^ b) = add1 (add1 (add1 U a b x) b a x) x a b by (show _ = (add1 (add1 U a b x) b a x).set x ((add1 (add1 U a b x) b a x).getD x 0 ||| 2 ^ a ||| 2 ^ b)); rw [getD_lt _ _ _ hu3]] at hset3
          have HSET3 := Lib.hid hset3
          clear hset3
          generalize (add1 (add1 U a b x) b a x)[x]'hu3 ||| 2 ^ a ||| 2 ^ b = v3 at *
          generalize (add1 (add1 U a b x) b a x)[x]'hu3 ||| 2 ^ a = u3 at *
          generalize (add1 (add1 U a b x) b a x)[x]'hu3 = z3 at *
          go_wp2
          go_region
          obtain ⟨wq3, hw3q⟩ : ∃ W', W' = (wq2.setCell ⟨gu, x, none⟩ (.int .i64 (v3 : Int))).drew := ⟨_, rfl⟩
          rw [← hw3q]
          have HU3 : Hid (Own wq3 gu (gu + 1) 3 (some ⟨gu, 0, none⟩) W.length (ints (casts (add1 (add1 (add1 U a b x) b a x) x a b)))) := Lib.hid (by rw [hw3q]; exact HSET3.out.drew)
          have HB3 : Hid (KeepBut (some ⟨gu, 0, none⟩) w3 wq3) := Lib.hid (by rw [hw3q]; exact HB2.out.store _ _)
          have HO3 : Hid (Own wq3 lo hi 22 B d (pkV hs rs k)) := Lib.hid (by rw [hw3q]; exact (HO2.out.setCell (p := ⟨gu, x, none⟩) (by have := HGO.out; show gu < lo ∨ hi ≤ gu; omega) _).drew)
          have hz3 : wq3.heap.size = wq2.heap.size := by rw [hw3q]; simp
          have HZ3 := Lib.hid hz3
          have hzl3 : wq3.heap.size ≤ wq2.heap.size ∧ wq2.heap.size ≤ wq3.heap.size := by omega
          clear hw3q hz3 hs3 fs3 EA3 EB3 HSET3 
          have hpl := pkV_length hs rs k
          have hwz : wr.heap.size ≤ wq3.heap.size := by omega
          have hU3 : add3 U a b x = add1 (add1 (add1 U a b x) b a x) x a b := rfl
          rw [← hU3] at HU3
          clear hU3
          go_wp2_with (at_builtin; refine wpList_pushV rfl (.tmp 100) (.tmp 102) rfl lo hi B d n (pkV hs rs k) (some ⟨b2, off2, none⟩) 3 hs[k].2 wq3.heap.size rfl rfl (HN.out.trans hpl.symm) ?c1 ?c2 (by omega) ?c3 ?c4 ?_)
          case c1 => exact HO3.out.alloc (by omega) _
          case c2 => go_simp
          case c3 => simp; omega
          case c4 => simp; omega
          intro A4 c4 w4 lo4 hi4 ho4 hhi4 hor4
          have HO4 := Lib.hid ho4
          have hgood : KeepBut (some ⟨gu, 0, none⟩) w3 w4 ∧ Own w4 gu (gu + 1) 3 (some ⟨gu, 0, none⟩) W.length (ints (casts (add3 U a b x))) ∧ w1.heap.size ≤ lo4 ∧ (c4 = 0 ∨ w3.heap.size ≤ lo4) ∧ (hi4 ≤ gu ∨ gu < lo4) ∧ lo4 ≤ w4.heap.size := by
            have hk4 : KeepBut (some ⟨gu, 0, none⟩) w3 (wq3.alloc (.cells #[.slice (some ⟨b2, off2, none⟩) 3 hs[k].2] 22)) := KeepBut.trans HB3.out (KeepBut.of_below ((Below.refl _ _).alloc (Nat.le_refl _) _))
            have hu4 := HU3.out.alloc (show gu + 1 ≤ wq3.heap.size by omega) (.cells #[.slice (some ⟨b2, off2, none⟩) 3 hs[k].2] 22)
            have hz4 : (wq3.alloc (.cells #[.slice (some ⟨b2, off2, none⟩) 3 hs[k].2] 22)).heap.size = wq3.heap.size + 1 := by simp
            rcases hor4 with ⟨rfl, rfl, hcap, hkb⟩ | ⟨hge, hbl⟩
            · have hlo3 : w3.heap.size ≤ lo4 := by have := HOR.out; omega
              have hfresh : ∃ q, B = some ⟨q, 0, none⟩ ∧ w3.heap.size ≤ q := by
                rcases HO3.out with ⟨_, _, h9⟩ | ⟨g, cur, h9, h10, _⟩
                · omega
                · exact ⟨g, h9, by omega⟩
              refine ⟨KeepBut.fresh hkb hk4 hfresh, hu4.keep (fun g h1 h2 => hkb.block g (by omega) ?_), hlo, .inr hlo3, .inr (by omega), ?_⟩
              · obtain ⟨q, e, hq⟩ := hfresh
                rw [e]
                intro e2
                simp only [Option.some.injEq, Addr.mk.injEq, and_true] at e2
                omega
              · have := hkb.size; omega
            · refine ⟨hk4.trans (KeepBut.of_below (by rw [World.size_alloc]; exact hbl)), hu4.below hbl (by omega), by omega, .inr (by omega), .inr (by omega), ?_⟩
              rcases own_block HO4.out with h6 | ⟨g2, h6, h7, h8⟩
              · rcases HO4.out with ⟨_, h9, _⟩ | ⟨g, cur, h9, _⟩
                · simp at h9
                · rw [h6] at h9; cases h9
              · omega
          obtain ⟨q1, q2, q3, q4, q5, q6⟩ := hgood
          have HQ1 := Lib.hid q1
          have HQ2 := Lib.hid q2
          have HV : Hid (pkV hs rs (k + 1) = pkV hs rs k ++ [.slice (some ⟨b2, off2, none⟩) 3 hs[k].2]) := Lib.hid (by rw [E2.out, EQ2.out, ← HTS.out]; rfl)
          have HL : Hid (pkL rs (k + 1) = pkL rs k ++ [tri3 a b x]) := Lib.hid (by rw [E1.out, ← HTS.out])
          clear ho4 hor4 q1 q2
          go_wp2
          go_roundw
          case rel => exact ⟨k + 1, n + 1, c4, lo4, hi4, A4, add3 U a b x, by omega, by go_num, rfl, Lib.hid (by rw [HL.out, List.length_append, HN.out]; rfl), by omega, Lib.hid (by rw [HL.out]; exact HAD.out), q3, q4, q5, hhi4, q6, (by rw [HV.out]; exact HO4.out), HQ2.out, HQ1.out⟩
          case measure => simp [intOf]; omega
      · obtain rfl : k = rs.length := by omega
        go_wp2
        go_ret
        refine ⟨B, d, ret_slice HN.out, ?_, hbw3.trans (HB.out.below (by have := hbw.size; omega) hbw3.size)⟩
        have hin2 : Inner wr (gu + 1) w3.heap.size hs rs := HII.out.keep fun g h1 h2 => HB.out.block g h2 (by intro e; simp only [Option.some.injEq, Addr.mk.injEq, and_true] at e; omega)
        exact pk_ownT rs.length (Nat.le_refl _) HE.out hin2 hwr HO.out hhi (by have := hbw.size; omega) (Nat.le_trans hbw.size hlo)
end Go.Proofs.Ytkdfjkocfejfjaa
