/- The table of best orders: losses, firstCost, l08Table, walked. -/
import Derived.Test.YtkdfjkocfejfjaaTabl
import Derived.Test.YtkdfjkocfejfjaaKeep
import Derived.Test.YtkdfjkocfejfjaaDom
import Derived.Test.YtkdfjkocfejfjaaKings
import Derived.Test.YtkdfjkocfejfjaaOnes
import Derived.Test.YtkdfjkocfejfjaaTriang
namespace Go.Proofs.Ytkdfjkocfejfjaa
open Go.RowKit

theorem losses_any (A : Option Addr) (c : Nat) (W : List Nat) (a : Nat) (w : World) (hT : IsT W) (h : Row w w.heap.size A (ints (casts W))) (ha : a < W.length) :
    Calls Try.prog 107 #[.agg #[.int .i64 (W.length : Int), .slice A W.length c], .int .i64 (a : Int)] w fun e w' => e = .returned (.int .i64 (lossN W a : Nat)) ∧ Below w.heap.size w w' := by
  have g1 := hT.h1
  have g8 := hT.h8
  obtain ⟨p1, p2⟩ := pow_bd W.length g1 g8
  obtain ⟨q1, q2⟩ := pow_small a (by omega)
  obtain ⟨b, off, rfl, hb, hc⟩ := h.nat ha
  have hlf := (loss_facts W hT a ha).1
  have hg : W.getD a 0 = W[a] := getD_lt _ _ _ ha
  have hv : Hid (((lossN W a : Nat) : Int) = 2 ^ W.length - 1 - (W[a] : Nat) - 2 ^ a) := Lib.hid (by
    unfold lossN
    rw [hg] at hlf ⊢
    have e1 := pow_cast W.length
    have e2 := pow_cast a
    omega)
  have hx := hT.lt256' ha
  have hq : (1 : Int) * 2 ^ W.length = 2 ^ W.length := by omega
  have hq2 : (1 : Int) * 2 ^ a = 2 ^ a := by omega
  clear hlf hg
  generalize W[a] = x at *
  go_enter Try.func107, Try.ntmps107
  go_wp2
  go_quiet (fail)
  go_wp2
  go_ret
  exact ⟨ret_int hv.out.symm, below_drewN (by go_grown) _⟩
theorem firstCost_any (A : Option Addr) (c : Nat) (W : List Nat) (a s : Nat) (w : World) (hT : IsT W) (h : Row w w.heap.size A (ints (casts W))) (ha : a < W.length) (hs : s < 2 ^ W.length) (hm : s.testBit a = true) :
    Calls Try.prog 89 #[.agg #[.int .i64 (W.length : Int), .slice A W.length c], .int .i64 (a : Int), .int .i64 (s : Int)] w fun e w' => e = .returned (.int .i64 (cst W a (s - 2 ^ a) : Nat)) ∧ Below w.heap.size w w' := by
  have h256 : s < 256 := Nat.lt_of_lt_of_le hs (pow_le8 _ hT.h8)
  have HV := Lib.hid (loss_cst W hT a s ha hs hm)
  have hll : lossN W a < 256 := by unfold lossN; have h1 := pow_le8 W.length hT.h8; have h2 := Nat.two_pow_pos W.length; generalize 2 ^ W.length = N at *; generalize 2 ^ a = M; generalize W.getD a 0 = y; omega
  have E1 := and_nat s (lossN W a) (by omega) (by omega)
  have hx : s &&& lossN W a < 256 := Nat.lt_of_le_of_lt Nat.and_le_left h256
  generalize hy : s &&& lossN W a = y at *
  have HY := Lib.hid hy
  clear hy
  go_enter Try.func89, Try.ntmps89
  go_wp2_with fail
  refine (losses_any A c W a _ hT (h.rowAt (by go_grown) (Nat.le_refl _)) ha).mono ?_
  rintro e w1 ⟨rfl, hb⟩
  obtain ⟨k0, k1, hbw, hsz⟩ := box1 hb
  clear hb
  go_wp2_with fail
  refine (onesCount_any (y : Int) _ (by omega) (by omega)).mono ?_
  rw [Int.toNat_natCast]
  rintro e w' ⟨rfl, rfl⟩
  go_wp2
  go_ret
  exact ⟨ret_int (by rw [← HV.out]), hbw⟩
def bestL (W : List Nat) (k : Nat) : List Nat := (tbl W k).map Prod.fst
def waysL (W : List Nat) (k : Nat) : List Nat := (tbl W k).map Prod.snd
theorem bestL_length (W : List Nat) (k : Nat) : (bestL W k).length = k := by simp [bestL, tbl_length]
theorem waysL_length (W : List Nat) (k : Nat) : (waysL W k).length = k := by simp [waysL, tbl_length]
theorem bestL_at (W : List Nat) (k s : Nat) (h : s < (bestL W k).length) : (bestL W k)[s] = ((tbl W k).getD s (0, 0)).1 := by
  have h2 : s < (tbl W k).length := by simpa [bestL] using h
  simp [bestL, List.getD, List.getElem?_eq_getElem h2]
theorem waysL_at (W : List Nat) (k s : Nat) (h : s < (waysL W k).length) : (waysL W k)[s] = ((tbl W k).getD s (0, 0)).2 := by
  have h2 : s < (tbl W k).length := by simpa [waysL] using h
  simp [waysL, List.getD, List.getElem?_eq_getElem h2]
theorem bestL_succ (W : List Nat) (k : Nat) : bestL W (k + 1) = bestL W k ++ [(ent W k).1] := by simp [bestL, tbl, ent]
theorem waysL_succ (W : List Nat) (k : Nat) : waysL W (k + 1) = waysL W k ++ [(ent W k).2] := by simp [waysL, tbl, ent]
theorem own_keepbut {w w' : World} {lo hi : Nat} {t : TypeId} {A B : Option Addr} {c : Nat} {vs : List Value} (h : Own w lo hi t B c vs) (hk : KeepBut A w w') (hne : A ≠ B) (hhi : hi ≤ w.heap.size) : Own w' lo hi t B c vs := by
  rcases h with h | ⟨g, cur, rfl, a, b, hh, r⟩
  · exact .inl h
  · exact .inr ⟨g, cur, rfl, a, b, (hk.block g (by omega) hne).trans hh, r⟩
theorem own_fresh {w : World} {lo hi : Nat} {t : TypeId} {A A' B : Option Addr} {c c' d : Nat} {vs : List Value} {m : Nat} (h : Own w lo hi t B d vs) (hhi : hi ≤ m) (hne : A ≠ B) (hd : (A' = A ∧ c' = c) ∨ ∃ q, A' = some ⟨q, 0, none⟩ ∧ m ≤ q) : A' ≠ B := by
  rcases hd with ⟨rfl, _⟩ | ⟨q, rfl, hq⟩
  · exact hne
  · rcases h with ⟨rfl, _⟩ | ⟨g, cur, rfl, a, b, _⟩
    · simp
    · intro e
      simp only [Option.some.injEq, Addr.mk.injEq, and_true] at e
      omega
theorem KeepBut.below' {A : Option Addr} {a b : World} {m : Nat} {lo hi : Nat} {w : World} {t : TypeId} {c : Nat} {vs : List Value} (h : KeepBut A a b) (ho : Own w lo hi t A c vs) (hm : m ≤ lo) (hma : m ≤ a.heap.size) : Below m a b :=
  ⟨h.os, h.tape, h.output, h.size, fun g hg => h.block g (by omega) (by
    rcases ho with ⟨rfl, _⟩ | ⟨q, cur, rfl, h1, h2, _⟩
    · simp
    · intro e
      simp only [Option.some.injEq, Addr.mk.injEq, and_true] at e
      omega)⟩
set_option maxHeartbeats 1600000 in
theorem l08Table_any (A : Option Addr) (c : Nat) (W : List Nat) (w : World) (hT : IsT W) (h : Row w w.heap.size A (ints (casts W))) :
    Calls Try.prog 72 #[.agg #[.int .i64 (W.length : Int), .slice A W.length c]] w fun e w' => ∃ B d B' d', e = .returned (.tuple #[.slice B (2 ^ W.length) d, .slice B' (2 ^ W.length) d']) ∧ Row w' w'.heap.size B (ints (casts (bestL W (2 ^ W.length)))) ∧ Row w' w'.heap.size B' (ints (casts (waysL W (2 ^ W.length)))) ∧ Below w.heap.size w w' := by
  have g1 := hT.h1
  have g8 := hT.h8
  obtain ⟨p1, p2⟩ := pow_bd W.length g1 g8
  have HPN := Lib.hid (pow_cast W.length)
  have HP8 := Lib.hid (pow_le8 W.length g8)
  go_enter Try.func72, Try.ntmps72
  go_wp2
  obtain ⟨w1, hw1⟩ : ∃ w1, w1 = ((w.alloc (.cells #[.int .i64 (W.length : Int), .slice A W.length c] 27)).alloc (.cells #[.int .i64 0] 3)).alloc (.cells #[.int .i64 1] 3) := ⟨_, rfl⟩
  rw [← hw1]
  have k0 : w1.cell? ⟨w.heap.size, 0, none⟩ = some (.int .i64 (W.length : Int)) := by rw [hw1]; go_simp
  have k1 : w1.cell? ⟨w.heap.size, 1, none⟩ = some (.slice A W.length c) := by rw [hw1]; go_simp
  have hbw : Below w.heap.size w w1 := by rw [hw1]; go_grown
  have hz1 : w1.heap.size = w.heap.size + 3 := by rw [hw1]; simp
  have HB1 : Hid (Own w1 (w.heap.size + 1) w1.heap.size 3 (some ⟨w.heap.size + 1, 0, none⟩) 1 (ints (casts (bestL W 1)))) := Lib.hid (by
    have hm := Own.made (w.alloc (.cells #[.int .i64 (W.length : Int), .slice A W.length c] 27)) (w.heap.size + 1) 3 #[.int .i64 0] (by simp) (by simp [maxLen])
    rw [World.size_alloc] at hm
    rw [hw1]
    exact (hm.alloc (by simp) _).mono (Nat.le_refl _) (by simp))
  have HB2 : Hid (Own w1 (w.heap.size + 1) w1.heap.size 3 (some ⟨w.heap.size + 2, 0, none⟩) 1 (ints (casts (waysL W 1)))) := Lib.hid (by
    have hm := Own.made ((w.alloc (.cells #[.int .i64 (W.length : Int), .slice A W.length c] 27)).alloc (.cells #[.int .i64 0] 3)) (w.heap.size + 1) 3 #[.int .i64 1] (by simp) (by simp [maxLen])
    rw [World.size_alloc, World.size_alloc] at hm
    rw [hw1]
    exact hm.mono (Nat.le_refl _) (by simp))
  have h := (h.below hbw (Nat.le_refl _)).mono (Nat.le_succ w.heap.size)
  clear hw1
  go_loopw [4, 5, 6] (fun v v' i wr => ∃ (k : Nat) (B B' : Option Addr) (d d' : Nat), 1 ≤ k ∧ k ≤ 2 ^ W.length ∧ i = .int .i64 (k : Int) ∧ v = .slice B k d ∧ v' = .slice B' k d' ∧ Hid (B ≠ B') ∧ Own wr (w.heap.size + 1) wr.heap.size 3 B d (ints (casts (bestL W k))) ∧ Own wr (w.heap.size + 1) wr.heap.size 3 B' d' (ints (casts (waysL W k))) ∧ Below (w.heap.size + 1) w1 wr) (fun _ _ i _ => 2 ^ W.length + 1 - (intOf i).toNat)
  case atStart => exact ⟨1, _, _, 1, 1, Nat.le_refl _, Nat.one_le_two_pow, rfl, rfl, rfl, Lib.hid (by simp), HB1.out, HB2.out, Below.refl _ _⟩
  case round =>
    clear HB1 HB2
    obtain ⟨k, B, B', d, d', hk1, hk, rfl, rfl, rfl, HNE, ho, ho', hb⟩ := hrel
    have HO := Lib.hid ho
    have HO' := Lib.hid ho'
    clear ho ho'
    obtain ⟨c0, c1⟩ := heldB k0 k1 hb (Nat.lt_succ_self _)
    go_wp2_with fail
    refine (l02All_any A c W.length _ g1 g8).mono ?_
    rintro e wa ⟨rfl, hba⟩
    have hm1 : w.heap.size + 1 ≤ w1.heap.size := by omega
    have hb := belowB hb hm1 hba
    obtain ⟨c0, c1⟩ := heldB k0 k1 hb (Nat.lt_succ_self _)
    by_cases hlt : k < 2 ^ W.length
    · have hlt' : (k : Int) ≤ 2 ^ W.length - 1 := by have := HPN.out; omega
      have h256 := HP8.out
      go_wp2_with fail
      refine (l02List_any (k : Int) _ (by omega) (by omega)).mono ?_
      rintro e wl ⟨C, dC, rfl, hoC, hbl⟩
      rw [Int.toNat_natCast] at *
      rw [casts_length]
      have hbX := belowB hb hm1 hbl
      obtain ⟨c0, c1⟩ := heldB k0 k1 hbX (Nat.lt_succ_self _)
      have hba2 := below_trans hba hbl
      have HM := Lib.hid (fun a ha => mem_left k a (by omega) ha)
      have HML := Lib.hid (fun j hj => mem_lt W.length k hlt j hj)
      have hrC : Row wl wl.heap.size C (ints (casts (mem 8 k))) := hoC.row
      have hRB : Row wl wl.heap.size B (ints (casts (bestL W k))) := (HO.out.below hba2 (Nat.le_refl _)).row.mono hba2.size
      have hRB' : Row wl wl.heap.size B' (ints (casts (waysL W k))) := (HO'.out.below hba2 (Nat.le_refl _)).row.mono hba2.size
      have hW := rowB h hbX hm1
      have hEB : ∀ x, x < 256 → (ent W x).1 ≤ 64 ∧ (ent W x).2 ≤ 16777216 := fun x hx => by
        obtain ⟨e1, e2⟩ := ent_bd W x hx
        have h8 := pc_le 8 x
        have h9 : 8 ^ pc 8 x ≤ 8 ^ 8 := Nat.pow_le_pow_right (by omega) h8
        exact ⟨by omega, by omega⟩
      have HEB : Hid (∀ x, x < k → ((tbl W k).getD x (0, 0)).1 ≤ 64 ∧ ((tbl W k).getD x (0, 0)).2 ≤ 16777216) := Lib.hid (fun x hx => by rw [tbl_at W k x hx]; exact hEB x (by omega))
      have HSB := Lib.hid (fun j hj => st_bd W (tbl W k) k 64 16777216 (fun a ha => by
        obtain ⟨_, q1, _, _⟩ := HM.out a ha
        exact HEB.out _ q1) j hj)
      have hmk : (mem 8 k).length ≤ 8 := by rw [mem_length]; exact pc_le 8 k
      have HSTS := Lib.hid (fun j (hj : j < (mem 8 k).length) => (show stK W (tbl W k) k (j + 1) = stepT W (tbl W k) k (stK W (tbl W k) k j) (mem 8 k)[j] by rw [stK, getD_lt _ _ _ hj]))
      clear hoC hEB
      go_wp2
      obtain ⟨wo, rfl⟩ : ∃ wo : World, wo = wr := ⟨_, rfl⟩
      go_loopw [7, 8, 24] (fun v v' i wr => ∃ j : Nat, j ≤ (mem 8 k).length ∧ i = .int .i64 (j : Int) ∧ v = .int .i64 (stK W (tbl W k) k j).1 ∧ v' = .int .i64 ((stK W (tbl W k) k j).2 : Nat) ∧ Below wl.heap.size wl wr) (fun _ _ i _ => (mem 8 k).length - (intOf i).toNat)
      case atStart => exact ⟨0, Nat.zero_le _, rfl, rfl, rfl, Below.refl _ _⟩
      case round =>
        obtain ⟨j, hj, rfl, rfl, rfl, hbq⟩ := hrel
        obtain ⟨c0, c1⟩ := heldB k0 k1 (belowB hbX hm1 hbq) (Nat.lt_succ_self _)
        by_cases hlj : j < (mem 8 k).length
        · obtain ⟨bC, oC, rfl, _, hcC⟩ := (hrC.rowAt hbq (Nat.le_refl _)).nat hlj
          obtain ⟨q8, q1, q2, q3⟩ := HM.out _ (List.getElem_mem hlj)
          have han := HML.out j hlj
          have HS := HSTS.out j hlj
          obtain ⟨b1, b2, b3, b4⟩ := HSB.out j (by omega)
          have b5 : (stK W (tbl W k) k j).2 ≤ 134217728 := Nat.le_trans b4 (Nat.mul_le_mul_right 16777216 (show j ≤ 8 by omega))
          clear b4 b3
          unfold stepT costT wayT at HS
          generalize stK W (tbl W k) k j = st at *
          obtain ⟨l, n⟩ := st
          simp only at b1 b2 b5 HS
          generalize (mem 8 k)[j] = a at *
          obtain ⟨r1, r2⟩ := pow_small a q8
          have hw1 : IntKind.i64.wrap (2 ^ a) = 2 ^ a := by rw [IntKind.wrap_i64]; omega
          have EL : (k : Int) - 2 ^ a = ((k - 2 ^ a : Nat) : Int) := by have := pow_cast a; omega
          obtain ⟨bA, oA, rfl, _, hcA⟩ := (hW.rowAt hbq (Nat.le_refl _)).nat han
          have hxA := hT.lt256' han
          have hcg : cst W a (k - 2 ^ a) = pc 8 (ofB 8 (fun i => (k - 2 ^ a).testBit i && !W[a].testBit i)) := by unfold cst; rw [getD_lt _ _ _ han]
          have E1 := andNot_nat (k - 2 ^ a) W[a] (by omega) hxA
          have hz := ofB_lt 8 (fun i => (k - 2 ^ a).testBit i && !W[a].testBit i)
          rw [hcg] at HS
          clear hcg
          generalize ofB 8 (fun i => (k - 2 ^ a).testBit i && !W[a].testBit i) = z at *
          have hcA' : ∃ y, y = W[a] := ⟨_, rfl⟩
          obtain ⟨y, hy⟩ := hcA'
          rw [← hy] at hcA hxA E1
          clear hy
          obtain ⟨gB, oB, rfl, _, hcB⟩ := (hRB.rowAt hbq (Nat.le_refl _)).nat (k := k - 2 ^ a) (by rw [bestL_length]; exact q1)
          obtain ⟨gB', oB', rfl, _, hcB'⟩ := (hRB'.rowAt hbq (Nat.le_refl _)).nat (k := k - 2 ^ a) (by rw [waysL_length]; exact q1)
          rw [bestL_at] at hcB
          rw [waysL_at] at hcB'
          obtain ⟨v1, v2⟩ := HEB.out _ q1
          generalize (tbl W k).getD (k - 2 ^ a) (0, 0) = en at *
          obtain ⟨eb, ew⟩ := en
          simp only at v1 v2 HS hcB hcB'
          have hlk : k - 2 ^ a < 256 := by omega
          generalize k - 2 ^ a = left at *
          have HEL := Lib.hid EL
          have hpz := pc_le 8 z
          have EW : IntKind.i64.wrap ((eb : Int) + (pc 8 z : Nat)) = (eb : Int) + (pc 8 z : Nat) := by rw [IntKind.wrap_i64]; omega
          have HS := Lib.hid HS
          go_wp2
          go_region_held3 (fun w' => Below wl.heap.size wl w' ∧ w'.cell? ⟨w.heap.size, 0, none⟩ = some (.int .i64 (W.length : Int)) ∧ w'.cell? ⟨w.heap.size, 1, none⟩ = some (.slice (some ⟨bA, oA, none⟩) W.length c) ∧ w'.cell? ⟨bA, oA + a, none⟩ = some (.int .i64 (y : Int)) ∧ w'.cell? ⟨gB, oB + left, none⟩ = some (.int .i64 (eb : Int)))
            (first | exact ⟨hbq, c0, c1, hcA, hcB⟩ | exact ⟨hbq.drew, c0, c1, hcA, hcB⟩)
            ((go_at_call 55; refine (l02Bits_any (z : Int) _ (by omega) (by omega)).mono ?_; rw [Int.toNat_natCast]; rintro e wq ⟨rfl, rfl⟩))
          by_cases ca : l < 0
          · have HSx := Lib.hid (HS.out.trans (if_pos (Or.inl ca)))
            clear HS
            go_wp2
            go_roundw
            case rel => exact ⟨j + 1, by omega, by go_num, (by rw [HSx.out]; first | done | rfl | (simp; done) | (rw [EW]; simp; done) | go_num), (by rw [HSx.out]; first | done | rfl | (simp; done) | (rw [EW]; simp; done) | go_num), by first | exact hbq | exact hbq.drew | exact below_drewN hbq _⟩
            case measure => simp [intOf]; omega
          · by_cases cb : ((eb + pc 8 z : Nat) : Int) < l
            · have HSx := Lib.hid (HS.out.trans (if_pos (Or.inr cb)))
              have cb' : (eb : Int) + (pc 8 z : Nat) < l := by omega
              clear HS cb
              go_wp2
              go_roundw
              case rel => exact ⟨j + 1, by omega, by go_num, (by rw [HSx.out]; first | done | rfl | (simp; done) | (rw [EW]; simp; done) | go_num), (by rw [HSx.out]; first | done | rfl | (simp; done) | (rw [EW]; simp; done) | go_num), by first | exact hbq | exact hbq.drew | exact below_drewN hbq _⟩
              case measure => simp [intOf]; omega
            · by_cases cc : ((eb + pc 8 z : Nat) : Int) = l
              · have HSx := Lib.hid (HS.out.trans ((if_neg (by rintro (h | h); exact ca h; exact cb h)).trans (if_pos cc)))
                have cb' : ¬ (eb : Int) + (pc 8 z : Nat) < l := by omega
                have e3 : (((eb : Int) + (pc 8 z : Nat)) == l) = true := by rw [beq_iff_eq]; omega
                clear HS cb cc
                go_wp2
                go_roundw
                case rel => exact ⟨j + 1, by omega, by go_num, (by rw [HSx.out]; first | done | rfl | (simp; done) | (rw [EW]; simp; done) | go_num), (by rw [HSx.out]; first | done | rfl | (simp; done) | (rw [EW]; simp; done) | go_num), by first | exact hbq | exact hbq.drew | exact below_drewN hbq _⟩
                case measure => simp [intOf]; omega
              · have HSx := Lib.hid (HS.out.trans ((if_neg (by rintro (h | h); exact ca h; exact cb h)).trans (if_neg cc)))
                have cb' : ¬ (eb : Int) + (pc 8 z : Nat) < l := by omega
                have e3 : (((eb : Int) + (pc 8 z : Nat)) == l) = false := by rw [beq_eq_false_iff_ne]; omega
                clear HS cb cc
                go_wp2
                go_roundw
                case rel => exact ⟨j + 1, by omega, by go_num, (by rw [HSx.out]; first | done | rfl | (simp; done) | (rw [EW]; simp; done) | go_num), (by rw [HSx.out]; first | done | rfl | (simp; done) | (rw [EW]; simp; done) | go_num), by first | exact hbq | exact hbq.drew | exact below_drewN hbq _⟩
                case measure => simp [intOf]; omega
        · obtain rfl : j = (mem 8 k).length := by omega
          have hpos : 0 < (mem 8 k).length := by
            rw [mem_length]
            have := pc_zero k (by omega)
            omega
          obtain ⟨b1, b2, b3, b4⟩ := HSB.out _ (Nat.le_refl _)
          have EZ1 : Hid (casts (bestL W (k + 1)) = casts (bestL W k) ++ [(stK W (tbl W k) k (mem 8 k).length).1]) := Lib.hid (by
            rw [bestL_succ, casts_append]
            congr 1
            unfold ent rowT
            rw [if_neg (by omega)]
            have := b3 hpos
            simp only [casts, List.map_cons, List.map_nil]
            rw [Int.toNat_of_nonneg this])
          have EZ2 : Hid (casts (waysL W (k + 1)) = casts (waysL W k) ++ [((stK W (tbl W k) k (mem 8 k).length).2 : Int)]) := Lib.hid (by
            rw [waysL_succ, casts_append]
            congr 1
            unfold ent rowT
            rw [if_neg (by omega)]
            rfl)
          clear b1 b2 b3 b4 HSB HSTS
          generalize (stK W (tbl W k) k (mem 8 k).length).1 = z1 at *
          generalize ((stK W (tbl W k) k (mem 8 k).length).2 : Int) = z2 at *
          have hbT := below_trans hba2 hbq
          have HB := Lib.hid (HO.out.below hbT (Nat.le_refl _))
          have HB' := Lib.hid (HO'.out.below hbT (Nat.le_refl _))
          have hzT := hbT.size
          have hL1 := Lib.hid (bestL_length W k)
          have hL2 := Lib.hid (waysL_length W k)
          have hbR := belowB hbX hm1 hbq
          have hm3 : w.heap.size + 1 ≤ wr.heap.size := Nat.le_trans hm1 hbR.size
          go_wp2_with (at_builtin; refine wpList_pushKeep rfl (.tmp 63) (.tmp 65) rfl (w.heap.size + 1) wo.heap.size B d k (casts (bestL W k)) z1 wr.heap.size rfl rfl ?c1 ?c2 ?c3 (by omega) ?c4 ?c5 ?_)
          case c1 => rw [casts_length, hL1.out]
          case c2 => exact HB.out.alloc hzT _
          case c3 => go_simp
          case c4 => simp; omega
          case c5 => simp; omega
          intro A2 c2 w4 ho4 hoA hk4 hd4
          rw [← EZ1.out] at ho4
          have hs4 := hk4.size
          have hs4' : wr.heap.size + 1 ≤ w4.heap.size := by simpa using hs4
          have hb4 : Below (w.heap.size + 1) w1 w4 := (hbR.alloc hm3 _).trans (hk4.below' HB.out (Nat.le_refl _) (by simp; omega))
          have HW4 := Lib.hid (own_keepbut (HB'.out.alloc hzT _) hk4 HNE.out (by simp; omega))
          have HN4 := Lib.hid (own_fresh HB'.out (Nat.le_succ_of_le hzT) HNE.out hd4)
          have HO4 := Lib.hid ho4
          clear ho4 hoA hk4 hd4
          go_wp2_with (at_builtin; refine wpList_pushKeep rfl (.tmp 67) (.tmp 69) rfl (w.heap.size + 1) wo.heap.size B' d' k (casts (waysL W k)) z2 w4.heap.size rfl rfl ?c1 ?c2 ?c3 (by omega) ?c4 ?c5 ?_)
          case c1 => rw [casts_length, hL2.out]
          case c2 => exact HW4.out.alloc (by omega) _
          case c3 => go_simp
          case c4 => simp; omega
          case c5 => simp; omega
          intro A3 c3 w5 ho5 hoA5 hk5 hd5
          rw [← EZ2.out] at ho5
          have hs5' : w4.heap.size + 1 ≤ w5.heap.size := by simpa using hk5.size
          have hb5 : Below (w.heap.size + 1) w1 w5 := (hb4.alloc (by omega) _).trans (hk5.below' HB'.out (Nat.le_refl _) (by simp; omega))
          have HW5 := Lib.hid ((own_keepbut (HO4.out.alloc (Nat.le_refl _) _) hk5 (Ne.symm HN4.out) (by simp)).mono (Nat.le_refl _) (hi' := w5.heap.size) (by omega))
          have HN5 := Lib.hid (Ne.symm (own_fresh HO4.out (Nat.le_succ _) (Ne.symm HN4.out) hd5))
          have HO5 := Lib.hid ho5
          clear ho5 hoA5 hk5 hd5
          go_wp2
          go_roundw
          case rel => exact ⟨k + 1, A2, A3, c2, c3, by omega, by omega, by go_num, rfl, rfl, HN5, HW5.out, HO5.out, hb5⟩
          case measure => simp [intOf]; omega
    · have hlt' : ¬ (k : Int) ≤ 2 ^ W.length - 1 := by have := HPN.out; omega
      have EK := Lib.hid (show k = 2 ^ W.length by omega)
      have hR1 : Row wa wa.heap.size B (ints (casts (bestL W k))) := (HO.out.below hba (Nat.le_refl _)).row.mono hba.size
      have hR2 : Row wa wa.heap.size B' (ints (casts (waysL W k))) := (HO'.out.below hba (Nat.le_refl _)).row.mono hba.size
      go_wp2
      refine bodyPost_ret (v := .tuple #[.slice B k d, .slice B' k d']) (by simp [results, Try.results72, go_sem]) rfl ?_
      rw [← EK.out]
      exact ⟨B, d, B', d', rfl, hR1, hR2, hbw.trans (hb.mono (by omega))⟩
end Go.Proofs.Ytkdfjkocfejfjaa
