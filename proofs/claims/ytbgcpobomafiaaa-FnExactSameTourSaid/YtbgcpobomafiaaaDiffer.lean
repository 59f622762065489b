/- CountDifferent, same and SameTour, walked. -/
import Derived.Test.YtbgcpobomafiaaaIsT
import Derived.Test.YtbgcpobomafiaaaOnes
namespace Go.Proofs.Ytbgcpobomafiaaa
open Go.RowKit

/-- Whom a player beats in one tour and not in the other. -/
def dif (W V : List Nat) (i : Nat) : Nat := ofB 8 (fun b => (W.getD i 0).testBit b && !(V.getD i 0).testBit b)
/-- How many results of the first k players differ so. -/
def difs (W V : List Nat) : Nat → Nat
  | 0 => 0
  | k + 1 => difs W V k + pc 8 (dif W V k)
theorem difs_le (W V : List Nat) (k : Nat) : difs W V k ≤ 8 * k := by
  induction k with
  | zero => simp [difs]
  | succ k ih => have := pc_le 8 (dif W V k); unfold difs; omega
theorem dif_lt (W V : List Nat) (i : Nat) : dif W V i < 256 := ofB_lt 8 _

/-- What both functions CountDifferent answer. -/
def rCountDifferent (s : Int) (zs : List Int) (t : Int) (ys : List Int) : Int :=
  if okB s zs && okB t ys && (s == t) then (difs (toW zs) (toW ys) zs.length : Nat) else -1

/-- Two structs of two cells have been boxed, then a call: the boxes stand. -/
theorem box2 {w w1 : World} {v0 v1 u0 u1 : Value} {t t' : TypeId} (hb : Below ((w.alloc (.cells #[v0, v1] t)).alloc (.cells #[u0, u1] t')).heap.size ((w.alloc (.cells #[v0, v1] t)).alloc (.cells #[u0, u1] t')) w1) :
    (w1.cell? ⟨w.heap.size, 0, none⟩ = some v0 ∧ w1.cell? ⟨w.heap.size, 1, none⟩ = some v1) ∧ (w1.cell? ⟨w.heap.size + 1, 0, none⟩ = some u0 ∧ w1.cell? ⟨w.heap.size + 1, 1, none⟩ = some u1) ∧ Below w.heap.size w w1 ∧ w.heap.size + 2 ≤ w1.heap.size :=
  ⟨⟨(hb.cell (p := ⟨w.heap.size, 0, none⟩) (by simp; omega)).trans (by go_simp), (hb.cell (p := ⟨w.heap.size, 1, none⟩) (by simp; omega)).trans (by go_simp)⟩,
    ⟨(hb.cell (p := ⟨w.heap.size + 1, 0, none⟩) (by simp)).trans (by go_simp), (hb.cell (p := ⟨w.heap.size + 1, 1, none⟩) (by simp)).trans (by go_simp)⟩,
    Below.trans (by go_grown) (hb.mono (by simp; omega)), by have := hb.size; simpa using this⟩

theorem iCountDifferent_any (A : Option Addr) (c : Nat) (s : Int) (zs : List Int) (A' : Option Addr) (c' : Nat) (t : Int) (ys : List Int) (w : World) (h : Row w w.heap.size A (ints zs)) (hl : zs.length ≤ 1099511627776) (h' : Row w w.heap.size A' (ints ys)) (hl' : ys.length ≤ 1099511627776) :
    Calls Try.prog 47 #[.agg #[.int .i64 s, .slice A zs.length c], .agg #[.int .i64 t, .slice A' ys.length c']] w fun e w' => e = .returned (.int .i64 (rCountDifferent s zs t ys)) ∧ Below w.heap.size w w' := by
  cases ho : okB s zs with
  | false =>
    have N : Hid (rCountDifferent s zs t ys = -1) := Lib.hid (by unfold rCountDifferent; rw [ho]; rfl)
    have HO := Lib.hid ho
    clear ho
    go_enter Try.func47, Try.ntmps47
    go_wp2_with (go_at_call 28; refine (iTourOk_any A c s zs _ (h.rowAt (by go_grown) (Nat.le_refl _)) hl).mono ?_; rw [HO.out]; rintro e w1 ⟨rfl, hb⟩)
    go_ret
    exact ⟨ret_int N.out.symm, (box2 hb).2.2.1⟩
  | true =>
    have HO := Lib.hid ho
    go_enter Try.func47, Try.ntmps47
    go_wp2_with fail
    refine (iTourOk_any A c s zs _ (h.rowAt (by go_grown) (Nat.le_refl _)) hl).mono ?_
    rw [HO.out]
    rintro e w1 ⟨rfl, hb⟩
    obtain ⟨⟨k0, k1⟩, ⟨j0, j1⟩, hbw, hsz⟩ := box2 hb
    clear hb
    cases ho' : okB t ys with
    | false =>
      have N : Hid (rCountDifferent s zs t ys = -1) := Lib.hid (by unfold rCountDifferent; rw [ho, ho']; rfl)
      have HO' := Lib.hid ho'
      clear ho ho'
      go_wp2_with (go_at_call 28; refine (iTourOk_any A' c' t ys _ (h'.rowAt hbw (Nat.le_refl _)) hl').mono ?_; rw [HO'.out]; rintro e w2 ⟨rfl, hb2⟩)
      go_ret
      exact ⟨ret_int N.out.symm, below_trans hbw hb2⟩
    | true =>
      have HO' := Lib.hid ho'
      go_wp2_with fail
      refine (iTourOk_any A' c' t ys _ (h'.rowAt hbw (Nat.le_refl _)) hl').mono ?_
      rw [HO'.out]
      rintro e w2 ⟨rfl, hb2⟩
      have hbw2 := below_trans hbw hb2
      obtain ⟨l0, l1⟩ := box_keep k0 k1 hb2
      obtain ⟨m0, m1⟩ := box_keep j0 j1 hb2
      clear k0 k1 j0 j1
      by_cases hst : s = t
      · obtain ⟨W, rfl, rfl, hT⟩ := ok_tour ho
        obtain ⟨V, rfl, e, hT'⟩ := ok_tour ho'
        subst hst
        have hV : V.length = W.length := by omega
        have R : Hid (rCountDifferent (W.length : Int) (casts W) (W.length : Int) (casts V) = (difs W V W.length : Nat)) := Lib.hid (by unfold rCountDifferent; rw [ho, ho', toW_casts, toW_casts, casts_length]; simp)
        have hr : Row w2 w2.heap.size A (ints (casts W)) := h.rowAt hbw2 (Nat.le_refl _)
        have hr' : Row w2 w2.heap.size A' (ints (casts V)) := h'.rowAt hbw2 (Nat.le_refl _)
        have hVl : W.length ≤ V.length := by omega
        have g8 := hT.h8
        have e1 : ((W.length : Int) != (W.length : Int)) = false := by simp
        clear ho ho' h h' hl hl' e hV HO HO' hb2
        rw [casts_length] at *
        rw [casts_length]
        go_wp2
        go_loop [5, 26] (fun v i => ∃ k : Nat, k ≤ W.length ∧ i = .int .i64 k ∧ v = .int .i64 (difs W V k : Nat)) (fun _ i => W.length - (intOf i).toNat)
        case atStart => exact ⟨0, Nat.zero_le _, rfl, rfl⟩
        case round =>
          obtain ⟨k, hk, rfl, rfl⟩ := hrel
          have hd := difs_le W V k
          by_cases hlt : k < W.length
          · obtain ⟨b, off, rfl, _, hc⟩ := hr.nat hlt
            obtain ⟨b', off', rfl, _, hc'⟩ := hr'.nat (k := k) (by omega)
            have hx := dif_lt W V k
            have hp := pc_le 8 (dif W V k)
            have E1 : bits .andNot .i64 ((W[k] : Nat) : Int) ((V[k] : Nat) : Int) = ((dif W V k : Nat) : Int) := by
              rw [andNot_nat _ _ (hT.lt256' hlt) (hT'.lt256' (by omega))]
              unfold dif
              rw [getD_lt _ _ _ hlt, getD_lt _ _ _ (show k < V.length by omega)]
            have E2 : Hid (difs W V (k + 1) = difs W V k + pc 8 (dif W V k)) := Lib.hid rfl
            have hcall := onesCount_any ((dif W V k : Nat) : Int) w2 (by omega) (by omega)
            rw [Int.toNat_natCast] at hcall
            have HC := Lib.hid hcall
            clear hcall hr hr'
            generalize dif W V k = x at *
            go_wp2_with (go_at_call 72; refine HC.out.mono ?_; rintro e w' ⟨rfl, rfl⟩)
            go_round
            case rel => exact ⟨k + 1, by omega, by go_num, by rw [E2.out]; go_num⟩
            case measure => simp [intOf]; omega
          · obtain rfl : k = W.length := by omega
            go_wp2
            go_ret
            exact ⟨ret_int R.out.symm, hbw2⟩
      · have e1 : (s != t) = true := by simpa using hst
        have N : Hid (rCountDifferent s zs t ys = -1) := Lib.hid (by unfold rCountDifferent; rw [ho, ho']; simp [hst])
        clear ho ho' hst
        go_wp2
        go_ret
        exact ⟨ret_int N.out.symm, hbw2⟩
theorem sCountDifferent_any (A : Option Addr) (c : Nat) (s : Int) (zs : List Int) (A' : Option Addr) (c' : Nat) (t : Int) (ys : List Int) (w : World) (h : Row w w.heap.size A (ints zs)) (hl : zs.length ≤ 1099511627776) (h' : Row w w.heap.size A' (ints ys)) (hl' : ys.length ≤ 1099511627776) :
    Calls Try.prog 46 #[.agg #[.int .i64 s, .slice A zs.length c], .agg #[.int .i64 t, .slice A' ys.length c']] w fun e w' => e = .returned (.int .i64 (rCountDifferent s zs t ys)) ∧ Below w.heap.size w w' := by
  cases ho : okB s zs with
  | false =>
    have N : Hid (rCountDifferent s zs t ys = -1) := Lib.hid (by unfold rCountDifferent; rw [ho]; rfl)
    have HO := Lib.hid ho
    clear ho
    go_enter Try.func46, Try.ntmps46
    go_wp2_with (go_at_call 26; refine (sTourOk_any A c s zs _ (h.rowAt (by go_grown) (Nat.le_refl _)) hl).mono ?_; rw [HO.out]; rintro e w1 ⟨rfl, hb⟩)
    go_ret
    exact ⟨ret_int N.out.symm, (box2 hb).2.2.1⟩
  | true =>
    have HO := Lib.hid ho
    go_enter Try.func46, Try.ntmps46
    go_wp2_with fail
    refine (sTourOk_any A c s zs _ (h.rowAt (by go_grown) (Nat.le_refl _)) hl).mono ?_
    rw [HO.out]
    rintro e w1 ⟨rfl, hb⟩
    obtain ⟨⟨k0, k1⟩, ⟨j0, j1⟩, hbw, hsz⟩ := box2 hb
    clear hb
    cases ho' : okB t ys with
    | false =>
      have N : Hid (rCountDifferent s zs t ys = -1) := Lib.hid (by unfold rCountDifferent; rw [ho, ho']; rfl)
      have HO' := Lib.hid ho'
      clear ho ho'
      go_wp2_with (go_at_call 26; refine (sTourOk_any A' c' t ys _ (h'.rowAt hbw (Nat.le_refl _)) hl').mono ?_; rw [HO'.out]; rintro e w2 ⟨rfl, hb2⟩)
      go_ret
      exact ⟨ret_int N.out.symm, below_trans hbw hb2⟩
    | true =>
      have HO' := Lib.hid ho'
      go_wp2_with fail
      refine (sTourOk_any A' c' t ys _ (h'.rowAt hbw (Nat.le_refl _)) hl').mono ?_
      rw [HO'.out]
      rintro e w2 ⟨rfl, hb2⟩
      have hbw2 := below_trans hbw hb2
      obtain ⟨l0, l1⟩ := box_keep k0 k1 hb2
      obtain ⟨m0, m1⟩ := box_keep j0 j1 hb2
      clear k0 k1 j0 j1
      by_cases hst : s = t
      · obtain ⟨W, rfl, rfl, hT⟩ := ok_tour ho
        obtain ⟨V, rfl, e, hT'⟩ := ok_tour ho'
        subst hst
        have hV : V.length = W.length := by omega
        have R : Hid (rCountDifferent (W.length : Int) (casts W) (W.length : Int) (casts V) = (difs W V W.length : Nat)) := Lib.hid (by unfold rCountDifferent; rw [ho, ho', toW_casts, toW_casts, casts_length]; simp)
        have hr : Row w2 w2.heap.size A (ints (casts W)) := h.rowAt hbw2 (Nat.le_refl _)
        have hr' : Row w2 w2.heap.size A' (ints (casts V)) := h'.rowAt hbw2 (Nat.le_refl _)
        have hVl : W.length ≤ V.length := by omega
        have g8 := hT.h8
        have e1 : ((W.length : Int) != (W.length : Int)) = false := by simp
        clear ho ho' h h' hl hl' e hV HO HO' hb2
        rw [casts_length] at *
        rw [casts_length]
        go_wp2
        go_loop [5, 26] (fun v i => ∃ k : Nat, k ≤ W.length ∧ i = .int .i64 k ∧ v = .int .i64 (difs W V k : Nat)) (fun _ i => W.length - (intOf i).toNat)
        case atStart => exact ⟨0, Nat.zero_le _, rfl, rfl⟩
        case round =>
          obtain ⟨k, hk, rfl, rfl⟩ := hrel
          have hd := difs_le W V k
          by_cases hlt : k < W.length
          · obtain ⟨b, off, rfl, _, hc⟩ := hr.nat hlt
            obtain ⟨b', off', rfl, _, hc'⟩ := hr'.nat (k := k) (by omega)
            have hx := dif_lt W V k
            have hp := pc_le 8 (dif W V k)
            have E1 : bits .andNot .i64 ((W[k] : Nat) : Int) ((V[k] : Nat) : Int) = ((dif W V k : Nat) : Int) := by
              rw [andNot_nat _ _ (hT.lt256' hlt) (hT'.lt256' (by omega))]
              unfold dif
              rw [getD_lt _ _ _ hlt, getD_lt _ _ _ (show k < V.length by omega)]
            have E2 : Hid (difs W V (k + 1) = difs W V k + pc 8 (dif W V k)) := Lib.hid rfl
            have hcall := l02Bits_any ((dif W V k : Nat) : Int) w2 (by omega) (by omega)
            rw [Int.toNat_natCast] at hcall
            have HC := Lib.hid hcall
            clear hcall hr hr'
            generalize dif W V k = x at *
            go_wp2_with (go_at_call 71; refine HC.out.mono ?_; rintro e w' ⟨rfl, rfl⟩)
            go_round
            case rel => exact ⟨k + 1, by omega, by go_num, by rw [E2.out]; go_num⟩
            case measure => simp [intOf]; omega
          · obtain rfl : k = W.length := by omega
            go_wp2
            go_ret
            exact ⟨ret_int R.out.symm, hbw2⟩
      · have e1 : (s != t) = true := by simpa using hst
        have N : Hid (rCountDifferent s zs t ys = -1) := Lib.hid (by unfold rCountDifferent; rw [ho, ho']; simp [hst])
        clear ho ho' hst
        go_wp2
        go_ret
        exact ⟨ret_int N.out.symm, hbw2⟩

theorem pc_zero (n x : Nat) (h : pc n x = 0) (i : Nat) (hi : i < n) : x.testBit i = false := by
  induction n with
  | zero => omega
  | succ n ih =>
    unfold pc at h
    by_cases e : i = n
    · subst e
      cases hb : x.testBit i with
      | true => rw [hb] at h; simp at h
      | false => rfl
    · exact ih (by omega) (by omega)
theorem difs_zero (W V : List Nat) (n : Nat) (h : difs W V n = 0) (i : Nat) (hi : i < n) : pc 8 (dif W V i) = 0 := by
  induction n with
  | zero => omega
  | succ n ih =>
    unfold difs at h
    by_cases e : i = n
    · subst e; omega
    · exact ih (by omega) (by omega)
theorem difs_self (W : List Nat) (n : Nat) : difs W W n = 0 := by
  induction n with
  | zero => rfl
  | succ n ih =>
    have e : dif W W n = 0 := by
      refine (eq_ofB 8 0 _ (by decide) fun i _ => ?_).symm
      simp
    rw [difs, ih, e]
    decide
theorem difs_eq (W V : List Nat) (hW : IsT W) (hV : IsT V) (hl : V.length = W.length) : (difs W V W.length = 0) ↔ W = V := by
  constructor
  · intro h
    have sub : ∀ a b, bt W a b = true → bt V a b = true := by
      intro a b hab
      rcases Nat.lt_or_ge a W.length with ha | ha
      · rcases Nat.lt_or_ge b 8 with hb | hb
        · have h1 := pc_zero 8 _ (difs_zero W V _ h a ha) b hb
          rw [dif, testBit_ofB] at h1
          cases hv : bt V a b with
          | true => rfl
          | false =>
            have h2 : (W.getD a 0).testBit b = true := hab
            have h3 : (V.getD a 0).testBit b = false := hv
            rw [h2, h3] at h1
            simp at h1
            omega
        · rw [hW.out a b (Nat.le_trans hW.h8 hb)] at hab; cases hab
      · rw [bt_out a b ha] at hab; cases hab
    have eq : ∀ a b, bt W a b = bt V a b := by
      intro a b
      cases hw : bt W a b with
      | true => exact (sub a b hw).symm
      | false =>
        cases hv : bt V a b with
        | false => rfl
        | true =>
          exfalso
          have hne : a ≠ b := fun e => by subst e; rw [hV.self a] at hv; cases hv
          have ha : a < V.length := by
            rcases Nat.lt_or_ge a V.length with ha | ha
            · exact ha
            · rw [bt_out a b ha] at hv; cases hv
          have hb : b < V.length := by
            rcases Nat.lt_or_ge b V.length with hb | hb
            · exact hb
            · rw [hV.out a b hb] at hv; cases hv
          have h1 := hW.pair a b (by omega) (by omega) hne
          rw [hw] at h1
          have h2 := sub b a (by revert h1; cases bt W b a <;> simp)
          have h3 := hV.pair a b ha hb hne
          rw [hv, h2] at h3
          cases h3
    apply List.ext_getElem hl.symm
    intro i h1 h2
    apply Nat.eq_of_testBit_eq
    intro b
    rw [← bt_lt h1, ← bt_lt h2]
    exact eq i b
  · rintro rfl
    exact difs_self W _

/-- What both functions SameTour answer. -/
def rSameTour (s : Int) (zs : List Int) (t : Int) (ys : List Int) : Bool := okB s zs && okB t ys && ((s == t) && (zs == ys))
theorem same_law (s : Int) (zs : List Int) (t : Int) (ys : List Int) : (rCountDifferent s zs t ys == 0) = rSameTour s zs t ys := by
  unfold rCountDifferent rSameTour
  cases ho : okB s zs with
  | false => rfl
  | true =>
    cases ho' : okB t ys with
    | false => rfl
    | true =>
      by_cases hst : s = t
      · obtain ⟨W, rfl, rfl, hT⟩ := ok_tour ho
        obtain ⟨V, rfl, e, hT'⟩ := ok_tour ho'
        subst hst
        have hl : V.length = W.length := by omega
        rw [toW_casts, toW_casts, casts_length, Bool.eq_iff_iff]
        simp only [Bool.true_and, beq_self_eq_true, if_true, beq_iff_eq]
        have h := difs_eq W V hT hT' hl
        constructor
        · intro e; rw [h.1 (by omega)]
        · intro e
          have : W = V := by rw [← toW_casts W, ← toW_casts V, e]
          have := h.2 this
          omega
      · have : (s == t) = false := by simpa using hst
        rw [this]; rfl

theorem sSameTour_any (A : Option Addr) (c : Nat) (s : Int) (zs : List Int) (A' : Option Addr) (c' : Nat) (t : Int) (ys : List Int) (w : World) (h : Row w w.heap.size A (ints zs)) (hl : zs.length ≤ 1099511627776) (h' : Row w w.heap.size A' (ints ys)) (hl' : ys.length ≤ 1099511627776) :
    Calls Try.prog 36 #[.agg #[.int .i64 s, .slice A zs.length c], .agg #[.int .i64 t, .slice A' ys.length c']] w fun e w' => e = .returned (.bool (rSameTour s zs t ys)) ∧ Below w.heap.size w w' := by
  have HS := Lib.hid (same_law s zs t ys)
  go_enter Try.func36, Try.ntmps36
  go_wp2_with fail
  refine (sCountDifferent_any A c s zs A' c' t ys _ (h.rowAt (by go_grown) (Nat.le_refl _)) hl (h'.rowAt (by go_grown) (Nat.le_refl _)) hl').mono ?_
  rintro e w1 ⟨rfl, hb⟩
  have hbw := (box2 hb).2.2.1
  go_wp2
  go_ret
  exact ⟨ret_bool HS.out, hbw⟩
end Go.Proofs.Ytbgcpobomafiaaa
