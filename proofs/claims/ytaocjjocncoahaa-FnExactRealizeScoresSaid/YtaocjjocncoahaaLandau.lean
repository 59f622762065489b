/- The two functions IsLandau, walked. -/
import Derived.Test.YtaocjjocncoahaaSlack
namespace Go.Proofs.Ytaocjjocncoahaa
open Go.RowKit

/-- What the program's IsLandau asks. -/
def lanI (zs : List Int) : Bool := decide (1 ≤ zs.length) && decide (zs.length ≤ 8) && allIn 0 8 zs && sortedB zs && decide (0 ≤ minL (slacks zs zs.length) (zs.length - 1)) && (slk zs zs.length == 0)
/-- What the reference's IsLandau asks of number i. -/
def lanAt (zs : List Int) (i : Nat) : Bool := decide (0 ≤ zs.getD i 0) && decide (zs.getD i 0 ≤ (zs.length : Int) - 1) && (i == 0 || decide (zs.getD (i - 1) 0 ≤ zs.getD i 0)) && decide (0 ≤ slk zs (i + 1))
def lanS (zs : List Int) : Bool := decide (1 ≤ zs.length) && decide (zs.length ≤ 8) && (List.range zs.length).all (lanAt zs) && (slk zs zs.length == 0)

/-! ### the plain law: the two ask the same -/
theorem minL_slacks (zs : List Int) (n k : Nat) (hk : k < n) : (0 ≤ minL (slacks zs n) k) ↔ ∀ i, i ≤ k → 0 ≤ slk zs (i + 1) := by
  have g : ∀ j, j < n → (slacks zs n).getD j 0 = slk zs (j + 1) := fun j hj => by
    rw [getD_lt _ _ _ (by rw [slacks_length]; exact hj)]; simp [slacks]
  induction k with
  | zero =>
    rw [minL, g 0 hk]
    exact ⟨fun h i hi => by obtain rfl : i = 0 := by omega
                            exact h, fun h => h 0 (Nat.le_refl _)⟩
  | succ k ih =>
    have ih' := ih (by omega)
    rw [minL, g (k + 1) hk, Int.le_min]
    exact ⟨fun ⟨h1, h2⟩ i hi => by
      by_cases e : i = k + 1
      · subst e; exact h2
      · exact ih'.1 h1 i (by omega), fun h => ⟨ih'.2 fun i hi => h i (by omega), h _ (Nat.le_refl _)⟩⟩
theorem sortedB_iff (zs : List Int) : sortedB zs = true ↔ ∀ i, i + 1 < zs.length → zs.getD i 0 ≤ zs.getD (i + 1) 0 := by
  unfold sortedB
  rw [List.all_eq_true]
  exact ⟨fun h i hi => by have := h i (by rw [List.mem_range]; omega); simpa using this, fun h i hi => by rw [List.mem_range] at hi; simpa using h i (by omega)⟩
theorem lan_eq (zs : List Int) : lanI zs = lanS zs := by
  rw [Bool.eq_iff_iff]
  by_cases hn : 1 ≤ zs.length ∧ zs.length ≤ 8
  · obtain ⟨h1, h8⟩ := hn
    have hm := minL_slacks zs zs.length (zs.length - 1) (by omega)
    simp only [lanI, lanS, Bool.and_eq_true, decide_eq_true_eq, sortedB_iff, allIn_all, List.all_eq_true, List.mem_range, beq_iff_eq, hm]
    constructor
    · rintro ⟨⟨⟨⟨_, ha⟩, hs⟩, hmin⟩, hz⟩
      refine ⟨⟨⟨h1, h8⟩, ?_⟩, hz⟩
      -- the last number is at most n - 1, and so are all
      have hlast : zs.getD (zs.length - 1) 0 ≤ (zs.length : Int) - 1 := by
        by_cases e1 : zs.length = 1
        · rw [e1] at hz ⊢
          simp [slk] at hz ⊢
          omega
        · have hh := hmin (zs.length - 2) (by omega)
          have e2 : slk zs zs.length = slk zs (zs.length - 1) + (zs.getD (zs.length - 1) 0 - ((zs.length - 1 : Nat) : Int)) := by
            have : zs.length = (zs.length - 1) + 1 := by omega
            rw [this, slk, Nat.add_sub_cancel]
          rw [show zs.length - 2 + 1 = zs.length - 1 by omega] at hh
          omega
      have hup : ∀ d i, i + d + 1 = zs.length → zs.getD i 0 ≤ (zs.length : Int) - 1 := by
        intro d
        induction d with
        | zero => intro i hi; rw [show i = zs.length - 1 by omega]; exact hlast
        | succ d ih => intro i hi; exact Int.le_trans (hs i (by omega)) (ih (i + 1) (by omega))
      intro i hi
      simp only [lanAt, Bool.and_eq_true, Bool.or_eq_true, decide_eq_true_eq, beq_iff_eq]
      refine ⟨⟨⟨(ha i hi).1, hup (zs.length - 1 - i) i (by omega)⟩, ?_⟩, hmin i (by omega)⟩
      by_cases e : i = 0
      · exact .inl e
      · right
        have := hs (i - 1) (by omega)
        rwa [show i - 1 + 1 = i by omega] at this
    · rintro ⟨⟨_, h⟩, hz⟩
      simp only [lanAt, Bool.and_eq_true, Bool.or_eq_true, decide_eq_true_eq, beq_iff_eq] at h
      refine ⟨⟨⟨⟨⟨h1, h8⟩, fun i hi => ⟨(h i hi).1.1.1, ?_⟩⟩, fun i hi => ?_⟩, fun i hi => (h i (by omega)).2⟩, hz⟩
      · have := (h i hi).1.1.2; omega
      · rcases (h (i + 1) hi).1.2 with e | e
        · omega
        · exact e
  · have e1 : lanI zs = false := by unfold lanI; simp; omega
    have e2 : lanS zs = false := by unfold lanS; simp; omega
    rw [e1, e2]

theorem lanAt_iff (zs : List Int) (k : Nat) (hk : k < zs.length) : lanAt zs k = true ↔
    (0 ≤ zs[k] ∧ zs[k] ≤ (zs.length : Int) - 1) ∧ (k = 0 ∨ zs.getD (k - 1) 0 ≤ zs[k]) ∧ ((k : Int) + 1) * (k : Int) / 2 ≤ sumTo zs k + zs[k] := by
  have e := slk_sum zs k
  rw [sumTo, getD_lt _ _ _ hk] at e
  unfold lanAt
  rw [e, getD_lt _ _ _ hk]
  simp only [Bool.and_eq_true, Bool.or_eq_true, decide_eq_true_eq, beq_iff_eq]
  constructor
  · rintro ⟨⟨⟨a, b⟩, c⟩, d⟩; exact ⟨⟨a, b⟩, c, by omega⟩
  · rintro ⟨⟨a, b⟩, c, d⟩; exact ⟨⟨⟨a, b⟩, c⟩, by omega⟩
theorem lanS_no (zs : List Int) (k : Nat) (hk : k < zs.length) (h : ¬ lanAt zs k = true) : lanS zs = false := by
  unfold lanS
  have : (List.range zs.length).all (lanAt zs) = false := by
    rw [List.all_eq_false]; exact ⟨k, by rw [List.mem_range]; exact hk, h⟩
  simp [this]
def LanTo (zs : List Int) (k : Nat) : Prop := ∀ j, j < k → lanAt zs j = true
theorem lanTo_in (zs : List Int) (k : Nat) (hk : k ≤ zs.length) (h8 : zs.length ≤ 8) (h : LanTo zs k) : InTo zs 8 k := fun j hj => by
  have := (lanAt_iff zs j (by omega)).1 (h j hj)
  rw [getD_lt _ _ _ (by omega)]
  omega
theorem lanS_end (zs : List Int) (h1 : 1 ≤ zs.length) (h8 : zs.length ≤ 8) (h : LanTo zs zs.length) : lanS zs = (sumTo zs zs.length == (zs.length : Int) * ((zs.length : Int) - 1) / 2) := by
  have ha : (List.range zs.length).all (lanAt zs) = true := by
    rw [List.all_eq_true]; intro i hi; exact h i (by rwa [List.mem_range] at hi)
  unfold lanS
  rw [ha]
  obtain ⟨m, hm⟩ : ∃ m, zs.length = m + 1 := ⟨zs.length - 1, by omega⟩
  rw [hm, slk_sum]
  have e : ((m : Int) + 1) * (m : Int) / 2 = ((m + 1 : Nat) : Int) * (((m + 1 : Nat) : Int) - 1) / 2 := by
    congr 1; rw [Int.natCast_add]; congr 1; omega
  rw [← e, Bool.eq_iff_iff]
  simp
  omega
theorem tri_bd' (n : Nat) (h1 : 1 ≤ n) (h8 : n ≤ 8) : 0 ≤ (n : Int) * ((n : Int) - 1) ∧ (n : Int) * ((n : Int) - 1) ≤ 56 := by
  have h : n = 1 ∨ n = 2 ∨ n = 3 ∨ n = 4 ∨ n = 5 ∨ n = 6 ∨ n = 7 ∨ n = 8 := by omega
  rcases h with rfl | rfl | rfl | rfl | rfl | rfl | rfl | rfl <;> decide

theorem sIsLandau_walk (A : Option Addr) (c : Nat) (zs : List Int) (w : World) (h : Row w w.heap.size A (ints zs)) (hl : zs.length ≤ 1099511627776) :
    Calls Try.prog 37 #[.slice A zs.length c] w fun e w' => e = .returned (.bool (lanS zs)) ∧ Below w.heap.size w w' := by
  by_cases h1 : 1 ≤ zs.length ∧ zs.length ≤ 8
  · obtain ⟨g1, g2⟩ := h1
    obtain ⟨n1, n2⟩ := tri_bd' zs.length g1 g2
    go_enter Try.func37, Try.ntmps37
    go_wp2_with (go_at_call 29; refine (sIn_yes _ _ _ _ (by omega) (by omega)).mono ?_; rintro e w' ⟨rfl, rfl⟩)
    go_loop [4, 14] (fun s i => ∃ k : Nat, k ≤ zs.length ∧ i = .int .i64 k ∧ s = .int .i64 (sumTo zs k) ∧ Hid (LanTo zs k)) (fun _ i => zs.length - (intOf i).toNat)
    case atStart => exact ⟨0, Nat.zero_le _, rfl, rfl, Lib.hid (fun j hj => by omega)⟩
    case round =>
      obtain ⟨k, hk, rfl, rfl, HT⟩ := hrel
      obtain ⟨s1, s2⟩ := sumTo_bd zs 8 k (lanTo_in zs k hk g2 HT.out)
      by_cases hlt : k < zs.length
      · obtain ⟨b, off, rfl, hbB, hc⟩ := h.int hlt
        obtain ⟨p1, p2⟩ := tri_bd k (by omega)
        have HI := Lib.hid (lanAt_iff zs k hlt)
        have E1 : Hid (sumTo zs (k + 1) = sumTo zs k + zs[k]) := Lib.hid (by rw [sumTo, getD_lt _ _ _ hlt])
        have NO := Lib.hid (lanS_no zs k hlt)
        by_cases hz : 0 ≤ zs[k] ∧ zs[k] ≤ (zs.length : Int) - 1
        · obtain ⟨z1, z2⟩ := hz
          have HT2 : Hid (lanAt zs k = true → LanTo zs (k + 1)) := Lib.hid (fun y j hj => by
            by_cases e : j = k
            · subst e; exact y
            · exact HT.out j (by omega))
          rcases Nat.eq_zero_or_pos k with rfl | hk0
          · have hc0 : w.cell? ⟨b, off, none⟩ = some (.int .i64 zs[0]) := hc
            have HY : Hid (LanTo zs (0 + 1)) := Lib.hid (HT2.out (HI.out.2 ⟨⟨z1, z2⟩, .inl rfl, by simp [sumTo]; omega⟩))
            clear h hc p1 p2 NO HI HT2
            have s0 : Hid (sumTo zs 0 = 0) := Lib.hid rfl
            generalize zs[0] = z at *
            generalize sumTo zs 0 = s at *
            have s3 : 0 ≤ s + z := by omega
            go_wp2_with (go_at_call 29; refine (sIn_yes _ _ _ _ z1 z2).mono ?_; rintro e w' ⟨rfl, rfl⟩)
            go_round
            case rel => exact ⟨1, by omega, rfl, by rw [← E1.out], HY⟩
            case measure => simp [intOf]; omega
          · obtain ⟨m, rfl⟩ : ∃ m, k = m + 1 := ⟨k - 1, by omega⟩
            obtain ⟨b', off', e, _, hc'⟩ := h.int (k := m) (by omega)
            simp only [Option.some.injEq, Addr.mk.injEq, and_true] at e
            obtain ⟨rfl, rfl⟩ := e
            have q1 : 0 ≤ ((m : Int) + 1 + 1) * ((m : Int) + 1) := p1
            have q2 : ((m : Int) + 1 + 1) * ((m : Int) + 1) ≤ 72 := p2
            have HJ : Hid (lanAt zs (m + 1) = true ↔ (0 ≤ zs[m + 1] ∧ zs[m + 1] ≤ (zs.length : Int) - 1) ∧ zs[m] ≤ zs[m + 1] ∧ ((m : Int) + 1 + 1) * ((m : Int) + 1) / 2 ≤ sumTo zs (m + 1) + zs[m + 1]) := Lib.hid (by
              rw [HI.out, Nat.add_sub_cancel, getD_lt _ _ _ (show m < zs.length by omega)]
              exact ⟨fun ⟨x, y, t⟩ => ⟨x, y.resolve_left (by omega), t⟩, fun ⟨x, y, t⟩ => ⟨x, .inr y, t⟩⟩)
            clear p1 p2 HI h hk0
            generalize zs[m + 1] = z at *
            generalize zs[m] = y at *
            generalize hprod : ((m : Int) + 1 + 1) * ((m : Int) + 1) = pr at *
            have HP := Lib.hid hprod
            clear hprod
            have t1 : ((m : Int) + 1).toNat = m + 1 := by omega
            have t2 : ((m : Int) + 1 - 1).toNat = m := by omega
            have r1 : 0 ≤ ((m : Int) + 1 + 1) * ((m : Int) + 1) := by rw [HP.out]; exact q1
            have r2 : ((m : Int) + 1 + 1) * ((m : Int) + 1) ≤ 72 := by rw [HP.out]; exact q2
            by_cases hp : z < y
            · have N := Lib.hid (NO.out (fun h => by have := (HJ.out.1 h).2.1; omega))
              go_wp2_with (go_at_call 29; refine (sIn_yes _ _ _ _ z1 z2).mono ?_; rintro e w' ⟨rfl, rfl⟩)
              go_ret
              exact ⟨ret_bool N.out.symm, Below.refl _ _⟩
            · by_cases hs : sumTo zs (m + 1) + z < ((m : Int) + 1 + 1) * ((m : Int) + 1) / 2
              · have N := Lib.hid (NO.out (fun h => by have := (HJ.out.1 h).2.2; rw [HP.out] at hs; omega))
                go_wp2_with (go_at_call 29; refine (sIn_yes _ _ _ _ z1 z2).mono ?_; rintro e w' ⟨rfl, rfl⟩)
                go_ret
                exact ⟨ret_bool N.out.symm, Below.refl _ _⟩
              · have Y := Lib.hid (HT2.out (HJ.out.2 ⟨⟨z1, z2⟩, by omega, by rw [HP.out] at hs; omega⟩))
                go_wp2_with (go_at_call 29; refine (sIn_yes _ _ _ _ z1 z2).mono ?_; rintro e w' ⟨rfl, rfl⟩)
                go_round
                case rel => exact ⟨m + 1 + 1, by omega, by go_num, by rw [← E1.out], Y.out⟩
                case measure => simp [intOf]; omega
        · have hz' : zs[k] < 0 ∨ (zs.length : Int) - 1 < zs[k] := by omega
          have N := Lib.hid (NO.out (fun y => hz (HI.out.1 y).1))
          clear hz h
          generalize zs[k] = z at *
          go_wp2_with (go_at_call 29; refine (sIn_no _ _ _ _ hz').mono ?_; rintro e w' ⟨rfl, rfl⟩)
          go_ret
          exact ⟨ret_bool N.out.symm, Below.refl _ _⟩
      · obtain rfl : k = zs.length := by omega
        have E := Lib.hid (lanS_end zs g1 g2 HT.out)
        go_wp2
        go_ret
        exact ⟨ret_bool E.out.symm, Below.refl _ _⟩
  · have E : lanS zs = false := by unfold lanS; simp; omega
    rw [E]
    have g : (zs.length : Int) < 1 ∨ 8 < (zs.length : Int) := by omega
    clear E h1
    go_enter Try.func37, Try.ntmps37
    go_wp2_with (go_at_call 29; refine (sIn_no _ _ _ _ g).mono ?_; rintro e w' ⟨rfl, rfl⟩)
    go_ret
    exact ⟨rfl, Below.refl _ _⟩

theorem iIsLandau_walk (A : Option Addr) (c : Nat) (zs : List Int) (w : World) (h : Row w w.heap.size A (ints zs)) (hl : zs.length ≤ 1099511627776) :
    Calls Try.prog 20 #[.slice A zs.length c] w fun e w' => e = .returned (.bool (lanI zs)) ∧ Below w.heap.size w w' := by
  by_cases h1 : 1 ≤ zs.length ∧ zs.length ≤ 8
  · obtain ⟨g1, g2⟩ := h1
    cases ha : allIn 0 8 zs with
    | false =>
      have E : Hid (lanI zs = false) := Lib.hid (by unfold lanI; simp [ha])
      have HA := Lib.hid ha
      clear ha
      go_enter Try.func20, Try.ntmps20
      go_wp2_with (first
        | (go_at_call 33; refine (within_yes _ _ _ _ (by omega) (by omega)).mono ?_; rintro e w' ⟨rfl, rfl⟩)
        | (go_at_call 52; refine (allWithin_any A c zs 0 8 _ h hl).mono ?_; rw [HA.out]; rintro e w1 ⟨rfl, hb1⟩))
      go_ret
      exact ⟨ret_bool E.out.symm, hb1⟩
    | true =>
      have hbd := Lib.hid (bd_of_allIn zs 8 (by omega) ha)
      have hbd2 : Hid (Bd zs 1000) := Lib.hid (fun i => by have := hbd.out i; omega)
      have HA := Lib.hid ha
      cases hs : sortedB zs with
      | false =>
        have E : Hid (lanI zs = false) := Lib.hid (by unfold lanI; simp [hs])
        have HS := Lib.hid hs
        clear ha hs
        go_enter Try.func20, Try.ntmps20
        go_wp2_with (first
          | (go_at_call 33; refine (within_yes _ _ _ _ (by omega) (by omega)).mono ?_; rintro e w' ⟨rfl, rfl⟩)
          | (go_at_call 52; refine (allWithin_any A c zs 0 8 _ h hl).mono ?_; rw [HA.out]; rintro e w1 ⟨rfl, hb1⟩)
          | (go_at_call 54; refine (isSorted_any A c zs _ (h.rowAt hb1 (Nat.le_refl _)) hl).mono ?_; rw [HS.out]; rintro e w2 ⟨rfl, hb2⟩))
        go_ret
        exact ⟨ret_bool E.out.symm, below_trans hb1 hb2⟩
      | true =>
        have HS := Lib.hid hs
        have hlen : (slacks zs zs.length).length = zs.length := slacks_length _ _
        have HL := Lib.hid hlen
        have E : Hid (lanI zs = (decide (0 ≤ minL (slacks zs zs.length) (zs.length - 1)) && (slk zs zs.length == 0))) := Lib.hid (by unfold lanI; simp [ha, hs, g1, g2])
        clear ha hs hlen
        go_enter Try.func20, Try.ntmps20
        go_wp2_with (first
          | (go_at_call 33; refine (within_yes _ _ _ _ (by omega) (by omega)).mono ?_; rintro e w' ⟨rfl, rfl⟩)
          | (go_at_call 52; refine (allWithin_any A c zs 0 8 _ h hl).mono ?_; rw [HA.out]; rintro e w1 ⟨rfl, hb1⟩)
          | (go_at_call 54; refine (isSorted_any A c zs _ (h.rowAt hb1 (Nat.le_refl _)) hl).mono ?_; rw [HS.out]; rintro e w2 ⟨rfl, hb2⟩))
        have hb12 := below_trans hb1 hb2
        refine (slackOf_any A c zs _ (h.rowAt hb12 (Nat.le_refl _)) g2 hbd2.out).mono ?_
        rintro e w3 ⟨A3, c3, rfl, o3, hb3⟩
        have hb13 := below_trans hb12 hb3
        rw [HL.out]
        have hr3 : Row w3 w3.heap.size A3 (ints (slacks zs zs.length)) := o3.row
        obtain ⟨b, off, rfl, _, hc⟩ := hr3.int (k := zs.length - 1) (by rw [HL.out]; omega)
        have e1 : (slacks zs zs.length)[zs.length - 1]'(by rw [HL.out]; omega) = slk zs zs.length := by
          simp only [slacks, List.getElem_map, List.getElem_range]
          rw [Nat.sub_add_cancel g1]
        rw [e1] at hc
        have t1 : ((zs.length : Int) - 1).toNat = zs.length - 1 := by omega
        by_cases hm : 0 ≤ minL (slacks zs zs.length) (zs.length - 1)
        · go_wp2_with (go_at_call 55; have hmn := min_any (some ⟨b, off, none⟩) c3 (slacks zs zs.length) w3 hr3 (by rw [HL.out]; omega) (by rw [HL.out]; omega); rw [HL.out] at hmn; refine hmn.mono ?_; rintro e w4 ⟨rfl, rfl⟩)
          go_ret
          exact ⟨ret_bool (by rw [E.out]; simp [hm]), hb13⟩
        · go_wp2_with (go_at_call 55; have hmn := min_any (some ⟨b, off, none⟩) c3 (slacks zs zs.length) w3 hr3 (by rw [HL.out]; omega) (by rw [HL.out]; omega); rw [HL.out] at hmn; refine hmn.mono ?_; rintro e w4 ⟨rfl, rfl⟩)
          go_ret
          exact ⟨ret_bool (by rw [E.out]; simp; intro hh; omega), hb13⟩
  · have E : lanI zs = false := by unfold lanI; simp; omega
    rw [E]
    have g : (zs.length : Int) < 1 ∨ 8 < (zs.length : Int) := by omega
    clear E h1
    go_enter Try.func20, Try.ntmps20
    go_wp2_with (go_at_call 33; refine (within_no _ _ _ _ g).mono ?_; rintro e w' ⟨rfl, rfl⟩)
    go_ret
    exact ⟨rfl, Below.refl _ _⟩

/-- What both answer. -/
def rIsLandau (zs : List Int) : Bool := lanS zs
theorem iIsLandau_any (A : Option Addr) (c : Nat) (zs : List Int) (w : World) (h : Row w w.heap.size A (ints zs)) (hl : zs.length ≤ 1099511627776) :
    Calls Try.prog 20 #[.slice A zs.length c] w fun e w' => e = .returned (.bool (rIsLandau zs)) ∧ Below w.heap.size w w' := by
  unfold rIsLandau; rw [← lan_eq]; exact iIsLandau_walk A c zs w h hl
theorem sIsLandau_any (A : Option Addr) (c : Nat) (zs : List Int) (w : World) (h : Row w w.heap.size A (ints zs)) (hl : zs.length ≤ 1099511627776) :
    Calls Try.prog 37 #[.slice A zs.length c] w fun e w' => e = .returned (.bool (rIsLandau zs)) ∧ Below w.heap.size w w' := sIsLandau_walk A c zs w h hl
end Go.Proofs.Ytaocjjocncoahaa
