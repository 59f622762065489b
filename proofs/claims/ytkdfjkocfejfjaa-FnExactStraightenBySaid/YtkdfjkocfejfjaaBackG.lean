/- BackGames: l08Back, BackGames, walked. -/
import Derived.Test.YtkdfjkocfejfjaaBack
import Derived.Test.YtkdfjkocfejfjaaKings
import Derived.Test.YtkdfjkocfejfjaaTourOf
namespace Go.Proofs.Ytkdfjkocfejfjaa
open Go.RowKit

/-- Everybody's place when k entries of the order have been read. -/
def plK (os : List Int) : Nat → List Nat
  | 0 => List.replicate os.length 0
  | k + 1 => (plK os k).set (atN os k) k
theorem plK_length (os : List Int) (k : Nat) : (plK os k).length = os.length := by
  induction k with
  | zero => simp [plK]
  | succ k ih => simp [plK, ih]
theorem atN_inj (os : List Int) (h : orderB os = true) (i j : Nat) (hi : i < os.length) (hj : j < os.length) (e : atN os i = atN os j) : i = j := by
  have h1 := posI_at os h i hi
  have h2 := posI_at os h j hj
  rw [e] at h1
  omega
theorem atN_lt (os : List Int) (h : orderB os = true) (i : Nat) (hi : i < os.length) : atN os i < os.length := by
  have := (orderB_facts os h).1 i hi
  unfold atN
  rw [getD_lt _ _ _ hi]
  omega
theorem plK_at (os : List Int) (h : orderB os = true) (k : Nat) (hk : k ≤ os.length) (i : Nat) (hi : i < k) : (plK os k).getD (atN os i) 0 = i := by
  induction k with
  | zero => omega
  | succ k ih =>
    have hlt := atN_lt os h i (by omega)
    rw [plK, List.getD, List.getElem?_set]
    by_cases e : atN os k = atN os i
    · have := atN_inj os h k i (by omega) (by omega) e
      subst this
      rw [if_pos rfl, if_pos (by rw [plK_length]; exact hlt)]
      rfl
    · rw [if_neg e]
      have hne : i ≠ k := fun e2 => e (by rw [e2])
      exact ih (by omega) (by omega)
theorem at_all (os : List Int) (h : orderB os = true) (a : Nat) (ha : a < os.length) : ∃ i, i < os.length ∧ atN os i = a := by
  have hp := order_perm os h
  have hm : a ∈ natL os := hp.mem_iff.2 (by rwa [List.mem_range])
  unfold natL at hm
  obtain ⟨z, hz, e⟩ := List.mem_map.1 hm
  obtain ⟨i, hi, rfl⟩ := List.mem_iff_getElem.1 hz
  refine ⟨i, hi, ?_⟩
  unfold atN
  rw [getD_lt _ _ _ hi]
  exact e
/-- At the end: the place that slices.Index finds. -/
theorem plK_pos (os : List Int) (h : orderB os = true) (a : Nat) (ha : a < os.length) : (((plK os os.length).getD a 0 : Nat) : Int) = posI os a := by
  obtain ⟨i, hi, rfl⟩ := at_all os h a ha
  rw [plK_at os h os.length (Nat.le_refl _) i hi, posI_at os h i hi]
def rBackGames (s : Int) (zs : List Int) (os : List Int) : List (List Int) := if rOrderOk s zs os then backRows (toW zs) os else []
theorem rBackGames_len (s : Int) (zs os : List Int) : (rBackGames s zs os).length ≤ 1000 ∧ (∀ r ∈ rBackGames s zs os, r.length ≤ 1099511627776) ∧ total (rBackGames s zs os) ≤ 1000000 := by
  unfold rBackGames
  split
  · rename_i h
    obtain ⟨W, rfl, rfl, hT⟩ := ok_tour (orderOk_facts h).1
    rw [toW_casts]
    unfold backRows
    have h1 := prRows_le W.length (bkN W os) hT.h8
    have h2 := total_le3 (prRows W.length (bkN W os)) 2 (prRows_len W.length (bkN W os))
    exact ⟨by omega, fun r hr => Nat.le_trans (prRows_len W.length (bkN W os) r hr) (by omega), by omega⟩
  · simp [total]

theorem ints_setB (W : List Nat) (a y : Nat) : (ints (casts W)).set a (.int .i64 (y : Nat)) = ints (casts (W.set a y)) := by
  unfold ints casts
  rw [List.map_set, List.map_set]
theorem bg_next {w1 w' wq : World} {g g2 a b : Nat} {v0 v1 x0 x1 : Value} (h : Below w1.heap.size w1 w' ∧ w'.cell? ⟨g, 0, none⟩ = some v0 ∧ w'.cell? ⟨g, 1, none⟩ = some v1 ∧ w'.cell? ⟨g2, a, none⟩ = some x0 ∧ w'.cell? ⟨g2, b, none⟩ = some x1) (hq : Below w'.heap.size w' wq) :
    Below w1.heap.size w1 wq ∧ wq.cell? ⟨g, 0, none⟩ = some v0 ∧ wq.cell? ⟨g, 1, none⟩ = some v1 ∧ wq.cell? ⟨g2, a, none⟩ = some x0 ∧ wq.cell? ⟨g2, b, none⟩ = some x1 := by
  obtain ⟨h0, h1, h2, h3, h4⟩ := h
  have l1 := World.block_lt_of_cell? _ _ h1
  have l3 := World.block_lt_of_cell? _ _ h3
  exact ⟨below_trans h0 hq, (hq.cell (p := ⟨g, 0, none⟩) l1).trans h1, (hq.cell (p := ⟨g, 1, none⟩) l1).trans h2, (hq.cell (p := ⟨g2, a, none⟩) l3).trans h3, (hq.cell (p := ⟨g2, b, none⟩) l3).trans h4⟩
/-- Everybody's place. -/
def ptP (os : List Int) (a : Nat) : Nat := (plK os os.length).getD a 0
set_option maxHeartbeats 800000 in
theorem l08Back_any (A : Option Addr) (c : Nat) (W : List Nat) (A' : Option Addr) (c' : Nat) (os : List Int) (w : World) (hT : IsT W) (h : Row w w.heap.size A (ints (casts W))) (h' : Row w w.heap.size A' (ints os)) (hol : os.length = W.length) (hob : orderB os = true) :
    Calls Try.prog 69 #[.agg #[.int .i64 (W.length : Int), .slice A W.length c], .slice A' os.length c'] w (NewTable w (backRows W os)) := by
  have g1 := hT.h1
  have g8 := hT.h8
  have hmk := make_ints W.length (by omega)
  have hall : ∀ i (hi : i < os.length), os[i] = (atN os i : Nat) ∧ atN os i < W.length := by
    intro i hi
    have h2 := atN_lt os hob i hi
    have h3 := (orderB_facts os hob).1 i hi
    refine ⟨?_, by omega⟩
    unfold atN
    rw [getD_lt _ _ _ hi]
    omega
  have HALL := Lib.hid hall
  have HPT : Hid (∀ a, a < W.length → posI os a = (ptP os a : Nat)) := Lib.hid (fun a ha => (plK_pos os hob a (by omega)).symm)
  have HOL := Lib.hid hol
  have HPL := Lib.hid (fun k => plK_length os k)
  have hl1 : os.length ≤ W.length := by omega
  have hl2 : W.length ≤ os.length := by omega
  clear hol hob hall
  go_enter Try.func69, Try.ntmps69
  go_wp2
  obtain ⟨w1, hw1⟩ : ∃ w1, w1 = (w.alloc (.cells #[.int .i64 (W.length : Int), .slice A W.length c] 27)).alloc (.cells (madeCells #[.int .i64 0] W.length) 3) := ⟨_, rfl⟩
  rw [← hw1]
  have k0 : w1.cell? ⟨w.heap.size, 0, none⟩ = some (.int .i64 (W.length : Int)) := by rw [hw1]; go_simp
  have k1 : w1.cell? ⟨w.heap.size, 1, none⟩ = some (.slice A W.length c) := by rw [hw1]; go_simp
  have hbw : Below w.heap.size w w1 := by rw [hw1]; go_grown
  have hz1 : w1.heap.size = w.heap.size + 2 := by rw [hw1]; simp
  have HO1 : Hid (Own w1 (w.heap.size + 1) (w.heap.size + 2) 3 (some ⟨w.heap.size + 1, 0, none⟩) W.length (ints (casts (plK os 0)))) := Lib.hid (by
    have hm := own_made (w.alloc (.cells #[.int .i64 (W.length : Int), .slice A W.length c] 27)) (w.heap.size + 1) W.length (by simp) (by omega)
    rw [World.size_alloc] at hm
    rw [hw1, plK, HOL.out]
    simpa [casts] using hm)
  have h := (h.below hbw (Nat.le_refl _)).mono (Nat.le_succ w.heap.size)
  have h' := (h'.below hbw (Nat.le_refl _)).mono (Nat.le_succ w.heap.size)
  clear hw1 hmk
  go_loopw [16] (fun i wr => ∃ k : Nat, k ≤ os.length ∧ i = .int .i64 k ∧ Own wr (w.heap.size + 1) (w.heap.size + 2) 3 (some ⟨w.heap.size + 1, 0, none⟩) W.length (ints (casts (plK os k))) ∧ Below (w.heap.size + 1) w1 wr ∧ wr.heap.size = w.heap.size + 2) (fun i _ => os.length - (intOf i).toNat)
  case atStart => exact ⟨0, Nat.zero_le _, rfl, HO1.out, Below.refl _ _, hz1⟩
  case round =>
    clear HO1
    obtain ⟨k, hk, rfl, ho, hb, hz⟩ := hrel
    by_cases hlt : k < os.length
    · obtain ⟨b, off, rfl, hbB, hc⟩ := (h'.below hb (Nat.le_refl _)).int hlt
      obtain ⟨e1, e2⟩ := HALL.out k hlt
      rw [e1] at hc
      obtain ⟨g, hg, _, _, hc9, hf2⟩ := ho.nat (k := atN os k) (by rw [HPL.out]; omega)
      simp only [Option.some.injEq, Addr.mk.injEq, and_true] at hg
      subst hg
      have ho2 := ho.set (atN os k) (.int .i64 (k : Nat))
      rw [ints_setB] at ho2
      have HO : Hid (Own (wr.setCell ⟨w.heap.size + 1, atN os k, none⟩ (.int .i64 (k : Nat))) (w.heap.size + 1) (w.heap.size + 2) 3 (some ⟨w.heap.size + 1, 0, none⟩) W.length (ints (casts (plK os (k + 1))))) := Lib.hid ho2
      obtain ⟨y, hc2⟩ : ∃ y, wr.cell? ⟨w.heap.size + 1, atN os k, none⟩ = some y := ⟨_, hc9⟩
      clear ho ho2 e1 hc9
      generalize atN os k = x at *
      go_wp2
      go_roundw
      case rel => exact ⟨k + 1, by omega, by go_num, HO.out, hb.setCell (p := ⟨w.heap.size + 1, x, none⟩) (Nat.le_refl _) _, by simpa using hz⟩
      case measure => simp [intOf]; omega
    · obtain rfl : k = os.length := by omega
      have HPC : Hid (∀ a, a < W.length → wr.cell? ⟨w.heap.size + 1, a, none⟩ = some (.int .i64 (ptP os a : Nat))) := Lib.hid (fun a ha => by
        obtain ⟨g, hg, _, _, hc2, hf2⟩ := ho.nat (k := a) (by rw [HPL.out]; omega)
        simp only [Option.some.injEq, Addr.mk.injEq, and_true] at hg
        subst hg
        rw [hc2]
        unfold ptP
        rw [getD_lt _ _ _ (by rw [HPL.out]; omega)])
      obtain ⟨c0, c1⟩ := heldB k0 k1 hb (Nat.lt_succ_self _)
      have hbw := hbw.trans (hb.mono (Nat.le_succ _))
      have h := h.below hb (Nat.le_refl _)
      clear k0 k1 hb ho h'
      go_wp2
      obtain ⟨w2, hw2⟩ : ∃ w2, w2 = wr.alloc (.cells #[] 22) := ⟨_, rfl⟩
      rw [← hw2]
      have k0 : w2.cell? ⟨w.heap.size, 0, none⟩ = some (.int .i64 (W.length : Int)) := by rw [hw2, World.cell?_alloc_lt _ _ _ (by show w.heap.size < _; omega)]; exact c0
      have k1 : w2.cell? ⟨w.heap.size, 1, none⟩ = some (.slice A W.length c) := by rw [hw2, World.cell?_alloc_lt _ _ _ (by show w.heap.size < _; omega)]; exact c1
      have HPC : Hid (∀ a, a < W.length → w2.cell? ⟨w.heap.size + 1, a, none⟩ = some (.int .i64 (ptP os a : Nat))) := Lib.hid (fun a ha => by rw [hw2, World.cell?_alloc_lt _ _ _ (by show w.heap.size + 1 < _; omega)]; exact HPC.out a ha)
      have hbw : Below w.heap.size w w2 := by rw [hw2]; exact hbw.alloc (by omega) _
      have h : Row w2 (w.heap.size + 2) A (ints (casts W)) := by rw [hw2]; exact (h.alloc (by omega) _).mono (by omega)
      have hst : OwnT w2 (w.heap.size + 2) w2.heap.size (some ⟨w.heap.size + 2, 0, none⟩) 0 (stP W.length (bkN W os) 0 0) := by
        refine OwnT.empty ?_
        have hm := Own.made wr (w.heap.size + 2) 22 #[] (by omega) (by simp)
        rw [hz] at hm
        rw [hw2]
        exact hm.mono (Nat.le_refl _) (by simp [hz])
      have hm2 : w.heap.size + 2 ≤ w2.heap.size := by rw [hw2]; simp [hz]
      have HST := Lib.hid hst
      clear hw2 hst c0 c1 hz
      clear HALL hl1 hl2 hk hlt HPL HOL
      clear hz1
      go_loopw [8, 30] (fun v i wr => ∃ (a : Nat) (B : Option Addr) (d n : Nat), a ≤ W.length ∧ i = .int .i64 a ∧ v = .slice B n d ∧ Hid (n = (stP W.length (bkN W os) a 0).length) ∧ n ≤ 100 ∧ OwnT wr (w.heap.size + 2) wr.heap.size B d (stP W.length (bkN W os) a 0) ∧ Below (w.heap.size + 2) w2 wr) (fun _ i _ => W.length - (intOf i).toNat)
      case atStart => exact ⟨0, _, 0, 0, Nat.zero_le _, rfl, rfl, Lib.hid rfl, by omega, HST.out, Below.refl _ _⟩
      case round =>
        clear HST
        obtain ⟨a, B, d, n, ha, rfl, rfl, HN, hn, ho, hb⟩ := hrel
        have HO := Lib.hid ho
        clear ho
        obtain ⟨c0, c1⟩ := heldB k0 k1 hb (by omega)
        by_cases hlt : a < W.length
        · go_wp2
          go_loopw [8, 36] (fun v i wr => ∃ (b : Nat) (B : Option Addr) (d n : Nat), b ≤ W.length ∧ i = .int .i64 b ∧ v = .slice B n d ∧ Hid (n = (stP W.length (bkN W os) a b).length) ∧ n ≤ 100 ∧ OwnT wr (w.heap.size + 2) wr.heap.size B d (stP W.length (bkN W os) a b) ∧ Below (w.heap.size + 2) w2 wr) (fun _ i _ => W.length - (intOf i).toNat)
          case atStart => exact ⟨0, B, d, n, Nat.zero_le _, rfl, rfl, HN, hn, HO.out, hb⟩
          case round =>
            clear hb c0 c1 HO HN hn
            obtain ⟨b, B, d, n, hbl, rfl, rfl, HN, hn, ho, hb⟩ := hrel
            have HO := Lib.hid ho
            clear ho
            obtain ⟨c0, c1⟩ := heldB k0 k1 hb (by omega)
            by_cases hltb : b < W.length
            · have hle := stP_le W.length (bkN W os) g8 a (b + 1) (by omega) (by omega)
              have HC := Lib.hid (fun v hv W' hr ha hb => l02BeatsW_any A c W a b v hv W' hT hr ha hb)
              have hbs := hb.size
              obtain ⟨pa, PA, p0⟩ : ∃ pa : Nat, Hid (posI os a = (pa : Int)) ∧ wr.cell? ⟨w.heap.size + 1, a, none⟩ = some (.int .i64 (pa : Int)) := ⟨ptP os a, Lib.hid (HPT.out a hlt), (hb.cell (p := ⟨w.heap.size + 1, a, none⟩) (by show w.heap.size + 1 < _; omega)).trans (HPC.out a hlt)⟩
              obtain ⟨pb, PB, p1⟩ : ∃ pb : Nat, Hid (posI os b = (pb : Int)) ∧ wr.cell? ⟨w.heap.size + 1, b, none⟩ = some (.int .i64 (pb : Int)) := ⟨ptP os b, Lib.hid (HPT.out b hltb), (hb.cell (p := ⟨w.heap.size + 1, b, none⟩) (by show w.heap.size + 1 < _; omega)).trans (HPC.out b hltb)⟩
              have hv : Below wr.heap.size wr wr := Below.refl _ _
              cases n1 : bt W a b with
              | false =>
                have HS := Lib.hid (stP_miss W.length (bkN W os) a b (by unfold bkN; rw [n1]; rfl))
                have M1 := Lib.hid n1
                clear n1 hle
                go_wp2
                have hv := hv.drew
                refine wp_region_held_drew (S := fun w' => Below wr.heap.size wr w' ∧ w'.cell? ⟨w.heap.size, 0, none⟩ = some (.int .i64 (W.length : Int)) ∧ w'.cell? ⟨w.heap.size, 1, none⟩ = some (.slice A W.length c) ∧ w'.cell? ⟨w.heap.size + 1, a, none⟩ = some (.int .i64 (pa : Int)) ∧ w'.cell? ⟨w.heap.size + 1, b, none⟩ = some (.int .i64 (pb : Int))) (by kernel_rfl) ?_ (fun hHeld => ?_)
                · (try dsimp only); exact ⟨hv, c0, c1, p0, p1⟩
                refine wpAnyH_take (i := 0) (v := ?_) rfl (by kernel_rfl) (by kernel_rfl) (by kernel_rfl) (fun _ _ _ h => h) (Or.inl ⟨by rfl, ?_⟩) (by assumption) ?_
                rotate_left
                · (intro wq hSw; (try dsimp only at hSw); (go_simp <;> with_reducible rfl))
                try simp only [Act.put, List.getElem_toArray, List.getElem_cons_zero, List.getElem_cons_succ, List.setIfInBounds_toArray, List.set_cons_zero, List.set_cons_succ]
                refine wpAnyH_take (i := 1) (v := ?_) rfl (by kernel_rfl) (by kernel_rfl) (by kernel_rfl) (fun _ _ _ h => h) (Or.inl ⟨by rfl, ?_⟩) (by assumption) ?_
                rotate_left
                · (intro wq hSw; (try dsimp only at hSw); (go_simp <;> with_reducible rfl))
                try simp only [Act.put, List.getElem_toArray, List.getElem_cons_zero, List.getElem_cons_succ, List.setIfInBounds_toArray, List.set_cons_zero, List.set_cons_succ]
                refine wpAnyH_take (i := 2) (v := ?_) rfl (by kernel_rfl) (by kernel_rfl) (by kernel_rfl) (fun _ _ _ h => h) (Or.inl ⟨by rfl, ?_⟩) (by assumption) ?_
                rotate_left
                · (intro wq hSw; (try dsimp only at hSw); (go_simp <;> with_reducible rfl))
                try simp only [Act.put, List.getElem_toArray, List.getElem_cons_zero, List.getElem_cons_succ, List.setIfInBounds_toArray, List.set_cons_zero, List.set_cons_succ]
                refine wpAnyH_ready (rs := [3]) (by kernel_rfl) (by simp) ?_
                refine AllReadyH.cons rfl (fun K hK => ?_) AllReadyH.nil
                go_simp
                (go_at_call 60; refine (HC.out false M1.out _ (rowB h (belowB hb hm2 (by first | exact hv | exact hv.drew)) hm2) hlt hltb).mono ?_; rintro e wq ⟨rfl, hbq⟩; obtain ⟨hv, c0, c1, p0, p1⟩ : Below wr.heap.size wr wq ∧ wq.cell? ⟨w.heap.size, 0, none⟩ = some (.int .i64 (W.length : Int)) ∧ wq.cell? ⟨w.heap.size, 1, none⟩ = some (.slice A W.length c) ∧ wq.cell? ⟨w.heap.size + 1, a, none⟩ = some (.int .i64 (pa : Int)) ∧ wq.cell? ⟨w.heap.size + 1, b, none⟩ = some (.int .i64 (pb : Int)) := (by first | exact bg_next ⟨hv, c0, c1, p0, p1⟩ hbq | exact bg_next ⟨hv.drew, c0, c1, p0, p1⟩ hbq))
                go_wp2_with fail
                refine hK.out _ _ ?_ (fun hHeld => ?_)
                · (try dsimp only); exact ⟨hv, c0, c1, p0, p1⟩
                clear hK K
                try simp only [Act.put, List.getElem_toArray, List.getElem_cons_zero, List.getElem_cons_succ, List.setIfInBounds_toArray, List.set_cons_zero, List.set_cons_succ]
                refine wpAnyH_take (i := 4) (v := ?_) rfl (by kernel_rfl) (by kernel_rfl) (by kernel_rfl) (fun _ _ _ h => h) (Or.inl ⟨by rfl, ?_⟩) (by assumption) ?_
                rotate_left
                · (intro wq hSw; (try dsimp only at hSw); (go_simp <;> with_reducible rfl))
                try simp only [Act.put, List.getElem_toArray, List.getElem_cons_zero, List.getElem_cons_succ, List.setIfInBounds_toArray, List.set_cons_zero, List.set_cons_succ]
                refine wpAnyH_take (i := 5) (v := undef) rfl (by kernel_rfl) (by kernel_rfl) (by kernel_rfl) (fun _ _ _ h => h) (Or.inr ⟨by rfl, rfl⟩) (by assumption) ?_
                try simp only [Act.put, List.getElem_toArray, List.getElem_cons_zero, List.getElem_cons_succ, List.setIfInBounds_toArray, List.set_cons_zero, List.set_cons_succ]
                refine wpAnyH_take (i := 6) (v := undef) rfl (by kernel_rfl) (by kernel_rfl) (by kernel_rfl) (fun _ _ _ h => h) (Or.inr ⟨by rfl, rfl⟩) (by assumption) ?_
                try simp only [Act.put, List.getElem_toArray, List.getElem_cons_zero, List.getElem_cons_succ, List.setIfInBounds_toArray, List.set_cons_zero, List.set_cons_succ]
                refine wpAnyH_take (i := 7) (v := undef) rfl (by kernel_rfl) (by kernel_rfl) (by kernel_rfl) (fun _ _ _ h => h) (Or.inr ⟨by rfl, rfl⟩) (by assumption) ?_
                try simp only [Act.put, List.getElem_toArray, List.getElem_cons_zero, List.getElem_cons_succ, List.setIfInBounds_toArray, List.set_cons_zero, List.set_cons_succ]
                refine wpAnyH_take (i := 8) (v := undef) rfl (by kernel_rfl) (by kernel_rfl) (by kernel_rfl) (fun _ _ _ h => h) (Or.inr ⟨by rfl, rfl⟩) (by assumption) ?_
                try simp only [Act.put, List.getElem_toArray, List.getElem_cons_zero, List.getElem_cons_succ, List.setIfInBounds_toArray, List.set_cons_zero, List.set_cons_succ]
                refine wpAnyH_take (i := 9) (v := undef) rfl (by kernel_rfl) (by kernel_rfl) (by kernel_rfl) (fun _ _ _ h => h) (Or.inr ⟨by rfl, rfl⟩) (by assumption) ?_
                try simp only [Act.put, List.getElem_toArray, List.getElem_cons_zero, List.getElem_cons_succ, List.setIfInBounds_toArray, List.set_cons_zero, List.set_cons_succ]
                refine wpAnyH_take (i := 10) (v := undef) rfl (by kernel_rfl) (by kernel_rfl) (by kernel_rfl) (fun _ _ _ h => h) (Or.inr ⟨by rfl, rfl⟩) (by assumption) ?_
                try simp only [Act.put, List.getElem_toArray, List.getElem_cons_zero, List.getElem_cons_succ, List.setIfInBounds_toArray, List.set_cons_zero, List.set_cons_succ]
                refine wpAnyH_take (i := 11) (v := undef) rfl (by kernel_rfl) (by kernel_rfl) (by kernel_rfl) (fun _ _ _ h => h) (Or.inr ⟨by rfl, rfl⟩) (by assumption) ?_
                try simp only [Act.put, List.getElem_toArray, List.getElem_cons_zero, List.getElem_cons_succ, List.setIfInBounds_toArray, List.set_cons_zero, List.set_cons_succ]
                refine wpAnyH_take (i := 12) (v := undef) rfl (by kernel_rfl) (by kernel_rfl) (by kernel_rfl) (fun _ _ _ h => h) (Or.inr ⟨by rfl, rfl⟩) (by assumption) ?_
                try simp only [Act.put, List.getElem_toArray, List.getElem_cons_zero, List.getElem_cons_succ, List.setIfInBounds_toArray, List.set_cons_zero, List.set_cons_succ]
                refine wpAnyH_take (i := 13) (v := undef) rfl (by kernel_rfl) (by kernel_rfl) (by kernel_rfl) (fun _ _ _ h => h) (Or.inr ⟨by rfl, rfl⟩) (by assumption) ?_
                try simp only [Act.put, List.getElem_toArray, List.getElem_cons_zero, List.getElem_cons_succ, List.setIfInBounds_toArray, List.set_cons_zero, List.set_cons_succ]
                refine wpAnyH_take (i := 14) (v := ?_) rfl (by kernel_rfl) (by kernel_rfl) (by kernel_rfl) (fun _ _ _ h => h) (Or.inl ⟨by rfl, ?_⟩) (by assumption) ?_
                rotate_left
                · (intro wq hSw; (try dsimp only at hSw); (go_simp <;> with_reducible rfl))
                try simp only [Act.put, List.getElem_toArray, List.getElem_cons_zero, List.getElem_cons_succ, List.setIfInBounds_toArray, List.set_cons_zero, List.set_cons_succ]
                refine wpAnyH_done (by kernel_rfl) ?_ _
                go_wp2
                go_roundw
                case rel => exact ⟨b + 1, B, d, n, by omega, by go_num, rfl, by rw [HS.out]; exact HN, hn, by rw [HS.out]; exact (HO.out.below hv (Nat.le_refl _)).mono (Nat.le_refl _) hv.size, belowB hb hm2 hv⟩
                case measure => simp [intOf]; omega
              | true =>
                have HU : Hid (bkN W os a b = decide (posI os b < posI os a)) := Lib.hid (by unfold bkN; rw [n1]; rfl)
                have M1 := Lib.hid n1
                clear n1
                by_cases hp : (pb : Int) < (pa : Int)
                · have HS := Lib.hid (stP_hit W.length (bkN W os) a b (HU.out.trans (decide_eq_true (by rw [PA.out, PB.out]; exact hp))))
                  have hle2 : n + 1 ≤ 100 := by rw [HS.out, List.length_append, ← HN.out] at hle; exact hle
                  clear hle
                  go_wp2
                  go_region_held3 (fun w' => Below wr.heap.size wr w' ∧ w'.cell? ⟨w.heap.size, 0, none⟩ = some (.int .i64 (W.length : Int)) ∧ w'.cell? ⟨w.heap.size, 1, none⟩ = some (.slice A W.length c) ∧ w'.cell? ⟨w.heap.size + 1, a, none⟩ = some (.int .i64 (pa : Int)) ∧ w'.cell? ⟨w.heap.size + 1, b, none⟩ = some (.int .i64 (pb : Int)))
                    (first | exact ⟨hv, c0, c1, p0, p1⟩ | exact ⟨hv.drew, c0, c1, p0, p1⟩)
                    ((go_at_call 60; refine (HC.out true M1.out _ (rowB h (belowB hb hm2 (by first | exact hv | exact hv.drew)) hm2) hlt hltb).mono ?_; rintro e wq ⟨rfl, hbq⟩; obtain ⟨hv, c0, c1, p0, p1⟩ : Below wr.heap.size wr wq ∧ wq.cell? ⟨w.heap.size, 0, none⟩ = some (.int .i64 (W.length : Int)) ∧ wq.cell? ⟨w.heap.size, 1, none⟩ = some (.slice A W.length c) ∧ wq.cell? ⟨w.heap.size + 1, a, none⟩ = some (.int .i64 (pa : Int)) ∧ wq.cell? ⟨w.heap.size + 1, b, none⟩ = some (.int .i64 (pb : Int)) := (by first | exact bg_next ⟨hv, c0, c1, p0, p1⟩ hbq | exact bg_next ⟨hv.drew, c0, c1, p0, p1⟩ hbq)))
                  have hO4 := Lib.hid ((HO.out.below hv (Nat.le_refl _)))
                  have hz3 := hv.size
                  go_wp2_with (at_builtin; refine wpList_pushT rfl (.tmp 54) (.tmp 58) rfl (w.heap.size + 2) wr.heap.size (wq.heap.size + 1) B d n (stP W.length (bkN W os) a b) (pair2 a b) wq.heap.size 2 (wq.heap.size + 1) 2 rfl rfl HN.out ?c5 ?c6 rfl ?c7 ?c8 ?c9 ?c0 (by omega) ?c1 ?_)
                  case c5 => exact (hO4.out.alloc (by omega) _).alloc (by simp; omega) _
                  case c6 =>
                    have hm := Own.made wq (w.heap.size + 2) 3 #[.int .i64 (a : Int), .int .i64 (b : Int)] (by omega) (by simp [maxLen])
                    exact (hm.alloc (by simp) _)
                  case c7 => omega
                  case c8 => simp
                  case c9 => simp; omega
                  case c0 => go_simp
                  case c1 => simp; omega
                  intro A2 c2 w4 ho4 hg4
                  have HO4 := Lib.hid ho4
                  clear ho4
                  go_wp2
                  go_roundw
                  case rel => exact ⟨b + 1, A2, c2, n + 1, by omega, by go_num, rfl, Lib.hid (by rw [HS.out, List.length_append, HN.out]; rfl), hle2, by rw [HS.out]; exact HO4.out, (((belowB hb hm2 hv).alloc (by omega) _).alloc (by simp; omega) _).trans (hg4.below (Nat.le_refl _) (by simp; omega))⟩
                  case measure => simp [intOf]; omega
                · have HS := Lib.hid (stP_miss W.length (bkN W os) a b (HU.out.trans (decide_eq_false (by rw [PA.out, PB.out]; exact hp))))
                  clear hle
                  go_wp2
                  go_region_held3 (fun w' => Below wr.heap.size wr w' ∧ w'.cell? ⟨w.heap.size, 0, none⟩ = some (.int .i64 (W.length : Int)) ∧ w'.cell? ⟨w.heap.size, 1, none⟩ = some (.slice A W.length c) ∧ w'.cell? ⟨w.heap.size + 1, a, none⟩ = some (.int .i64 (pa : Int)) ∧ w'.cell? ⟨w.heap.size + 1, b, none⟩ = some (.int .i64 (pb : Int)))
                    (first | exact ⟨hv, c0, c1, p0, p1⟩ | exact ⟨hv.drew, c0, c1, p0, p1⟩)
                    ((go_at_call 60; refine (HC.out true M1.out _ (rowB h (belowB hb hm2 (by first | exact hv | exact hv.drew)) hm2) hlt hltb).mono ?_; rintro e wq ⟨rfl, hbq⟩; obtain ⟨hv, c0, c1, p0, p1⟩ : Below wr.heap.size wr wq ∧ wq.cell? ⟨w.heap.size, 0, none⟩ = some (.int .i64 (W.length : Int)) ∧ wq.cell? ⟨w.heap.size, 1, none⟩ = some (.slice A W.length c) ∧ wq.cell? ⟨w.heap.size + 1, a, none⟩ = some (.int .i64 (pa : Int)) ∧ wq.cell? ⟨w.heap.size + 1, b, none⟩ = some (.int .i64 (pb : Int)) := (by first | exact bg_next ⟨hv, c0, c1, p0, p1⟩ hbq | exact bg_next ⟨hv.drew, c0, c1, p0, p1⟩ hbq)))
                  go_wp2
                  go_roundw
                  case rel => exact ⟨b + 1, B, d, n, by omega, by go_num, rfl, by rw [HS.out]; exact HN, hn, by rw [HS.out]; exact (HO.out.below hv (Nat.le_refl _)).mono (Nat.le_refl _) hv.size, belowB hb hm2 hv⟩
                  case measure => simp [intOf]; omega
            · obtain rfl : b = W.length := by omega
              have HS := Lib.hid (stP_b W.length (bkN W os) a)
              go_wp2
              go_roundw
              case rel => exact ⟨a + 1, B, d, n, by omega, by go_num, rfl, by rw [← HS.out]; exact HN, hn, by rw [← HS.out]; exact HO.out, hb⟩
              case measure => simp [intOf]; omega
        · obtain rfl : a = W.length := by omega
          have HS := Lib.hid (stP_end W.length (bkN W os))
          go_wp2
          go_ret
          exact ⟨B, d, ret_slice (by show n = (backRows W os).length; unfold backRows; rw [← HS.out]; exact HN.out), by unfold backRows; rw [← HS.out]; exact HO.out.mono (by omega) (Nat.le_refl _), hbw.trans (hb.mono (by omega))⟩

theorem iBackGames_any (A : Option Addr) (c : Nat) (s : Int) (zs : List Int) (A' : Option Addr) (c' : Nat) (os : List Int) (w : World) (h : Row w w.heap.size A (ints zs)) (hl : zs.length ≤ 1099511627776) (h' : Row w w.heap.size A' (ints os)) (hl' : os.length ≤ 1099511627776) (hc' : os.length ≤ c') :
    Calls Try.prog 30 #[.agg #[.int .i64 s, .slice A zs.length c], .slice A' os.length c'] w (NewTable w (rBackGames s zs os)) := by
  cases hok : rOrderOk s zs os with
  | false =>
    have N : Hid (rBackGames s zs os = []) := Lib.hid (by unfold rBackGames; rw [hok]; rfl)
    have HK := Lib.hid hok
    clear hok
    go_enter Try.func30, Try.ntmps30
    go_wp2_with fail
    refine (iOrderOk_any A c s zs A' c' os _ (h.rowAt (by go_grown) (Nat.le_refl _)) hl (h'.rowAt (by go_grown) (Nat.le_refl _)) hl' hc').mono ?_
    rw [HK.out]
    rintro e w1 ⟨rfl, hb⟩
    obtain ⟨k0, k1, hbw, hsz⟩ := box1 hb
    clear hb
    go_wp2
    go_ret
    exact newTable_none N.out hbw
  | true =>
    obtain ⟨ho, hol, hob⟩ := orderOk_facts hok
    obtain ⟨W, rfl, rfl, hT⟩ := ok_tour ho
    rw [toW_casts] at hol
    have N : rBackGames (W.length : Int) (casts W) os = backRows W os := by unfold rBackGames; rw [hok, toW_casts]; rfl
    rw [casts_length, N]
    have HOL := Lib.hid hol
    have HOB := Lib.hid hob
    clear N hok ho hl hol hob
    go_enter Try.func30, Try.ntmps30
    go_wp2_with fail
    refine (iOrderOkW A c W A' c' os _ hT (h.rowAt (by go_grown) (Nat.le_refl _)) (h'.rowAt (by go_grown) (Nat.le_refl _)) hl' hc' HOL.out HOB.out).mono ?_
    rintro e w1 ⟨rfl, hb⟩
    obtain ⟨k0, k1, hbw, hsz⟩ := box1 hb
    clear hb
    go_wp2_with fail
    refine (backGames_any A c W A' c' os _ hT (h.rowAt hbw (Nat.le_refl _)) (h'.rowAt hbw (Nat.le_refl _)) hl').mono ?_
    rintro e w2 ⟨B, d, rfl, hown, hb2⟩
    go_wp2
    go_ret
    exact ⟨B, d, rfl, hown.mono hbw.size (Nat.le_refl _), below_trans hbw hb2⟩
theorem sBackGames_any (A : Option Addr) (c : Nat) (s : Int) (zs : List Int) (A' : Option Addr) (c' : Nat) (os : List Int) (w : World) (h : Row w w.heap.size A (ints zs)) (hl : zs.length ≤ 1099511627776) (h' : Row w w.heap.size A' (ints os)) (hl' : os.length ≤ 1099511627776) (hc' : os.length ≤ c') :
    Calls Try.prog 28 #[.agg #[.int .i64 s, .slice A zs.length c], .slice A' os.length c'] w (NewTable w (rBackGames s zs os)) := by
  cases hok : rOrderOk s zs os with
  | false =>
    have N : Hid (rBackGames s zs os = []) := Lib.hid (by unfold rBackGames; rw [hok]; rfl)
    have HK := Lib.hid hok
    clear hok
    go_enter Try.func28, Try.ntmps28
    go_wp2_with fail
    refine (sOrderOk_any A c s zs A' c' os _ (h.rowAt (by go_grown) (Nat.le_refl _)) hl (h'.rowAt (by go_grown) (Nat.le_refl _)) hl' hc').mono ?_
    rw [HK.out]
    rintro e w1 ⟨rfl, hb⟩
    obtain ⟨k0, k1, hbw, hsz⟩ := box1 hb
    clear hb
    go_wp2
    go_ret
    exact newTable_none N.out hbw
  | true =>
    obtain ⟨ho, hol, hob⟩ := orderOk_facts hok
    obtain ⟨W, rfl, rfl, hT⟩ := ok_tour ho
    rw [toW_casts] at hol
    have N : rBackGames (W.length : Int) (casts W) os = backRows W os := by unfold rBackGames; rw [hok, toW_casts]; rfl
    rw [casts_length, N]
    have HOL := Lib.hid hol
    have HOB := Lib.hid hob
    clear N hok ho hl hol hob
    go_enter Try.func28, Try.ntmps28
    go_wp2_with fail
    refine (sOrderOkW A c W A' c' os _ hT (h.rowAt (by go_grown) (Nat.le_refl _)) (h'.rowAt (by go_grown) (Nat.le_refl _)) hl' hc' HOL.out HOB.out).mono ?_
    rintro e w1 ⟨rfl, hb⟩
    obtain ⟨k0, k1, hbw, hsz⟩ := box1 hb
    clear hb
    go_wp2_with fail
    refine (l08Back_any A c W A' c' os _ hT (h.rowAt hbw (Nat.le_refl _)) (h'.rowAt hbw (Nat.le_refl _)) HOL.out HOB.out).mono ?_
    rintro e w2 ⟨B, d, rfl, hown, hb2⟩
    go_wp2
    go_ret
    exact ⟨B, d, rfl, hown.mono hbw.size (Nat.le_refl _), below_trans hbw hb2⟩
end Go.Proofs.Ytkdfjkocfejfjaa
