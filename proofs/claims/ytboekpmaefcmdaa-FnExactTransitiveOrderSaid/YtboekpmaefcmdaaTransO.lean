/- TransitiveOrder, walked. -/
import Derived.Test.YtboekpmaefcmdaaTrans
import Derived.Test.YtboekpmaefcmdaaTRes
namespace Go.Proofs.Ytboekpmaefcmdaa
open Go.RowKit

theorem sc_lt_len {W : List Nat} (hT : IsT W) {a : Nat} (ha : a < W.length) : sc W a < W.length := by
  have hp := Nat.two_pow_pos W.length
  have h8 := pow_le8 W.length hT.h8
  have h := pc_strict (s := W.getD a 0) (t := 2 ^ W.length - 1) (by omega) (fun i hi => all_bit _ _ (bit_lt (hT.lt a) hi)) (fun e => by
    have h1 : bt W a a = false := hT.self a
    unfold bt at h1
    rw [e, all_bit _ _ ha] at h1
    cases h1)
  rw [pc_all W.length hT.h8] at h
  exact h
theorem sc_inj {W : List Nat} (hT : IsT W) (hn : noTri W) {a b : Nat} (ha : a < W.length) (hb : b < W.length) (h : sc W a = sc W b) : a = b := by
  refine Classical.byContradiction fun hne => ?_
  have key : ∀ x y, x < W.length → y < W.length → bt W x y = true → sc W y < sc W x := fun x y hx hy hxy => by
    refine pc_strict (hT.lt256 x) (fun i hi => noTri_trans hT hn (a := x) (b := y) hxy hi) fun e => ?_
    have h1 : bt W y y = false := hT.self y
    have h2 : bt W x y = true := hxy
    unfold bt at h1 h2
    rw [e, h2] at h1
    cases h1
  cases e : bt W a b
  · have := hT.pair b a hb ha (fun h => hne h.symm)
    rw [e] at this
    have := key b a hb ha this
    omega
  · have := key a b ha hb e
    omega
/-- The reference's list when k players have been put in their places. -/
def stO (W : List Nat) : Nat → List Nat
  | 0 => List.replicate W.length 0
  | k + 1 => (stO W k).set (W.length - 1 - sc W k) k
theorem stO_length (W : List Nat) (k : Nat) : (stO W k).length = W.length := by
  induction k with
  | zero => simp [stO]
  | succ k ih => simp [stO, ih]
theorem stO_at {W : List Nat} (hT : IsT W) (hn : noTri W) (k : Nat) (hk : k ≤ W.length) : ∀ a, a < k → (stO W k).getD (W.length - 1 - sc W a) 0 = a := by
  induction k with
  | zero => intro a h; omega
  | succ k ih =>
    intro a ha
    have hs := sc_lt_len hT (show a < W.length by omega)
    have hs2 := sc_lt_len hT (show k < W.length by omega)
    rw [stO, set_getD _ _ _ _ (by rw [stO_length]; omega)]
    by_cases e : a = k
    · subst e; rw [if_pos rfl]
    · have hne : sc W a ≠ sc W k := fun h => e (sc_inj hT hn (by omega) (by omega) h)
      rw [if_neg (by omega)]
      exact ih (by omega) a (by omega)
theorem order_score {W L : List Nat} (hT : IsT W) (hn : noTri W) (h : ByScore W L) : ∀ i, i < W.length → sc W (L.getD i 0) = W.length - 1 - i := by
  have hl := h.length
  have hnd : L.Nodup := (h.perm.nodup_iff).2 List.nodup_range
  have hst : ∀ i j, i < j → j < W.length → sc W (L.getD j 0) < sc W (L.getD i 0) := fun i j hij hj => by
    have h1 := h.desc i j hij hj
    have h2 : sc W (L.getD j 0) ≠ sc W (L.getD i 0) := fun e => by
      have := sc_inj hT hn (h.lt hj) (h.lt (show i < W.length by omega)) e
      rw [getD_lt _ _ _ (show j < L.length by omega), getD_lt _ _ _ (show i < L.length by omega)] at this
      have := (List.getElem_inj hnd).1 this
      omega
    omega
  have up : ∀ i, i < W.length → sc W (L.getD i 0) ≤ W.length - 1 - i := by
    intro i
    induction i with
    | zero => intro hi; have := sc_lt_len hT (h.lt hi); omega
    | succ i ih => intro hi; have h1 := ih (by omega); have h2 := hst i (i + 1) (by omega) hi; omega
  have lo : ∀ d i, i + d + 1 = W.length → d ≤ sc W (L.getD i 0) := by
    intro d
    induction d with
    | zero => intro i _; omega
    | succ d ih => intro i hi; have h1 := ih (i + 1) (by omega); have h2 := hst i (i + 1) (by omega) (by omega); omega
  intro i hi
  have h1 := up i hi
  have h2 := lo (W.length - 1 - i) i (by omega)
  omega
theorem order_is {W L : List Nat} (hT : IsT W) (hn : noTri W) (h : ByScore W L) : L = stO W W.length := by
  have hl := h.length
  refine List.ext_getElem (by rw [stO_length]; exact hl) fun i h1 h2 => ?_
  have hi : i < W.length := by omega
  have hs := order_score hT hn h i hi
  have ha := stO_at hT hn W.length (Nat.le_refl _) (L.getD i 0) (h.lt hi)
  rw [hs, show W.length - 1 - (W.length - 1 - i) = i by omega, getD_lt _ _ _ h2, getD_lt _ _ _ h1] at ha
  exact ha.symm
/-- A list and a word beside. -/
def NewIntsOk (w : World) (zs : List Int) (b : Bool) (e : Ending) (w' : World) : Prop :=
  ∃ A c, e = .returned (.tuple #[.slice A zs.length c, .bool b]) ∧ Own w' w.heap.size w'.heap.size 3 A c (ints zs) ∧ Below w.heap.size w w'
def rTransitiveOrder (s : Int) (zs : List Int) : List Int := if rIsTransitive s zs then casts (stO (toW zs) (toW zs).length) else []
def bTransitiveOrder (s : Int) (zs : List Int) : Bool := rIsTransitive s zs
theorem tra_facts {s : Int} {zs : List Int} (h : rIsTransitive s zs = true) : ∃ W : List Nat, zs = casts W ∧ s = (W.length : Int) ∧ IsT W ∧ noTri W := by
  unfold rIsTransitive at h
  cases ho : okB s zs with
  | false => rw [ho] at h; cases h
  | true =>
    obtain ⟨W, rfl, rfl, hT⟩ := ok_tour ho
    rw [ho, toW_casts, if_pos rfl] at h
    unfold traB at h
    rw [decide_eq_true_eq, List.length_eq_zero_iff] at h
    exact ⟨W, rfl, rfl, hT, (rows_noTri hT).1 h⟩
theorem rTransitiveOrder_len (s : Int) (zs : List Int) : (rTransitiveOrder s zs).length ≤ 1048576 := by
  unfold rTransitiveOrder
  cases h : rIsTransitive s zs with
  | false => simp
  | true =>
    obtain ⟨W, rfl, rfl, hT, _⟩ := tra_facts h
    have := hT.h8
    rw [if_pos rfl, casts_length, stO_length, toW_casts]
    omega
theorem iTransitiveOrder_any (A : Option Addr) (c : Nat) (s : Int) (zs : List Int) (w : World) (h : Row w w.heap.size A (ints zs)) (hl : zs.length ≤ 1099511627776) :
    Calls Try.prog 31 #[.agg #[.int .i64 s, .slice A zs.length c]] w (NewIntsOk w (rTransitiveOrder s zs) (bTransitiveOrder s zs)) := by
  cases ho : rIsTransitive s zs with
  | false =>
    have N1 : rTransitiveOrder s zs = [] := by unfold rTransitiveOrder; rw [ho]; rfl
    have N2 : bTransitiveOrder s zs = false := ho
    rw [N1, N2]
    have HC := Lib.hid (fun W' hr => iIsTransitive_any A c s zs W' hr hl)
    have HO := Lib.hid ho
    clear ho N1 N2
    go_enter Try.func31, Try.ntmps31
    go_wp2_with fail
    refine (HC.out _ (h.rowAt (by go_grown) (Nat.le_refl _))).mono ?_
    rw [HO.out]
    rintro e w1 ⟨rfl, hb⟩
    obtain ⟨k0, k1, hbw, hsz⟩ := box1 hb
    clear hb
    go_wp2
    refine bodyPost_ret (v := .tuple #[.slice none 0 0, .bool false]) (by simp [results, Try.results31, go_sem]) rfl ?_
    exact ⟨none, 0, rfl, Own.nil _ _ _ _, hbw⟩
  | true =>
    obtain ⟨W, rfl, rfl, hT, hn⟩ := tra_facts ho
    have N1 : rTransitiveOrder (W.length : Int) (casts W) = casts (stO W W.length) := by unfold rTransitiveOrder; rw [ho, toW_casts]; rfl
    have N2 : bTransitiveOrder (W.length : Int) (casts W) = true := ho
    have g1 := hT.h1
    have g8 := hT.h8
    rw [N1, N2]
    have HC := Lib.hid (fun W' hr => iIsTransitive_any A c (W.length : Int) (casts W) W' hr hl)
    have HO := Lib.hid ho
    clear ho N1 N2 hl
    rw [casts_length] at HC
    rw [casts_length]
    go_enter Try.func31, Try.ntmps31
    go_wp2_with fail
    refine (HC.out _ (h.rowAt (by go_grown) (Nat.le_refl _))).mono ?_
    rw [HO.out]
    rintro e w1 ⟨rfl, hb⟩
    obtain ⟨k0, k1, hbw, hsz⟩ := box1 hb
    have h := h.rowAt hbw (Nat.le_refl _)
    clear hb
    go_wp2_with fail
    refine (byScore_any A c W _ hT h).mono ?_
    rintro e w2 ⟨L, ga, d, rfl, hbs, ho2, hb2⟩
    have HE := Lib.hid (order_is hT hn hbs)
    have HN := Lib.hid hn
    have hz := hbw.size
    have HO2 := Lib.hid (ho2.mono hz (Nat.le_refl _))
    clear hbs ho2 hn
    go_wp2
    refine bodyPost_ret (v := .tuple #[.slice (some ⟨ga, 0, none⟩) W.length d, .bool true]) (by simp [results, Try.results31, go_sem]) rfl ?_
    refine ⟨some ⟨ga, 0, none⟩, d, by rw [casts_length, stO_length], ?_, below_trans hbw hb2⟩
    rw [← HE.out]
    exact HO2.out
theorem sTransitiveOrder_any (A : Option Addr) (c : Nat) (s : Int) (zs : List Int) (w : World) (h : Row w w.heap.size A (ints zs)) (hl : zs.length ≤ 1099511627776) :
    Calls Try.prog 30 #[.agg #[.int .i64 s, .slice A zs.length c]] w (NewIntsOk w (rTransitiveOrder s zs) (bTransitiveOrder s zs)) := by
  cases ho : rIsTransitive s zs with
  | false =>
    have N1 : rTransitiveOrder s zs = [] := by unfold rTransitiveOrder; rw [ho]; rfl
    have N2 : bTransitiveOrder s zs = false := ho
    rw [N1, N2]
    have HC := Lib.hid (fun W' hr => sIsTransitive_any A c s zs W' hr hl)
    have HO := Lib.hid ho
    clear ho N1 N2
    go_enter Try.func30, Try.ntmps30
    go_wp2_with fail
    refine (HC.out _ (h.rowAt (by go_grown) (Nat.le_refl _))).mono ?_
    rw [HO.out]
    rintro e w1 ⟨rfl, hb⟩
    obtain ⟨k0, k1, hbw, hsz⟩ := box1 hb
    clear hb
    go_wp2
    refine bodyPost_ret (v := .tuple #[.slice none 0 0, .bool false]) (by simp [results, Try.results30, go_sem]) rfl ?_
    exact ⟨none, 0, rfl, Own.nil _ _ _ _, hbw⟩
  | true =>
    obtain ⟨W, rfl, rfl, hT, hn⟩ := tra_facts ho
    have N1 : rTransitiveOrder (W.length : Int) (casts W) = casts (stO W W.length) := by unfold rTransitiveOrder; rw [ho, toW_casts]; rfl
    have N2 : bTransitiveOrder (W.length : Int) (casts W) = true := ho
    have g1 := hT.h1
    have g8 := hT.h8
    rw [N1, N2]
    have HC := Lib.hid (fun W' hr => sIsTransitive_any A c (W.length : Int) (casts W) W' hr hl)
    have HO := Lib.hid ho
    have HN := Lib.hid hn
    clear ho N1 N2 hl hn
    rw [casts_length] at HC
    rw [casts_length]
    have hmk := make_ints W.length (by omega)
    go_enter Try.func30, Try.ntmps30
    go_wp2_with fail
    refine (HC.out _ (h.rowAt (by go_grown) (Nat.le_refl _))).mono ?_
    rw [HO.out]
    rintro e w1 ⟨rfl, hb⟩
    obtain ⟨k0, k1, hbw, hsz⟩ := box1 hb
    have h := h.rowAt hbw (Nat.le_refl _)
    clear hb
    have d0 := (World.cell?_alloc_lt w1 (.cells (madeCells #[.int .i64 0] W.length) 3) ⟨w.heap.size, 0, none⟩ (by show w.heap.size < _; omega)).trans k0
    have d1 := (World.cell?_alloc_lt w1 (.cells (madeCells #[.int .i64 0] W.length) 3) ⟨w.heap.size, 1, none⟩ (by show w.heap.size < _; omega)).trans k1
    go_wp2_with fail
    have hm := own_made w1 w1.heap.size W.length (Nat.le_refl _) (by omega)
    have hb2 : Below w1.heap.size w1 (w1.alloc (.cells (madeCells #[.int .i64 0] W.length) 3)) := by go_grown
    refine (l02Scores_any A c W _ hT (h.rowAt hb2 (Nat.le_refl _))).mono ?_
    rintro e w3 ⟨B, e3, rfl, hoB, hb3⟩
    have hb13 := below_trans hb2 hb3
    have hsA : (w1.alloc (.cells (madeCells #[.int .i64 0] W.length) 3)).heap.size = w1.heap.size + 1 := by simp
    have hm3 := (hm.below hb3 (by rw [hsA]; exact Nat.le_refl _))
    have hz3 : w1.heap.size + 1 ≤ w3.heap.size := by have := hb3.size; rw [hsA] at this; exact this
    rw [hsA] at hoB
    have hll : (casts (scL W)).length = W.length := by rw [casts_length, scL_length]
    rw [hll]
    have HB := Lib.hid hoB
    have e0 : ints (List.replicate W.length 0) = ints (casts (stO W 0)) := by rw [stO, casts_zeros]
    rw [e0] at hm3
    have HM := Lib.hid hm3
    clear hmk d0 d1 hm hb2 hb3 hsA hm3 hoB hll e0
    go_wp2
    go_loopw [16] (fun i wr => ∃ k : Nat, k ≤ W.length ∧ i = .int .i64 (k : Int) ∧ Own wr w1.heap.size (w1.heap.size + 1) 3 (some ⟨w1.heap.size, 0, none⟩) W.length (ints (casts (stO W k))) ∧ Own wr (w1.heap.size + 1) w3.heap.size 3 B e3 (ints (casts (scL W))) ∧ Below w1.heap.size w1 wr ∧ w3.heap.size ≤ wr.heap.size) (fun i _ => W.length - (intOf i).toNat)
    case atStart => exact ⟨0, Nat.zero_le _, rfl, HM.out, HB.out, hb13, Nat.le_refl _⟩
    case round =>
      clear HM HB
      obtain ⟨k, hk, rfl, hom, hoB, hb, hzw⟩ := hrel
      obtain ⟨c0, c1⟩ := held_at k0 k1 hb
      by_cases hlt : k < W.length
      · have hkl : k < (scL W).length := by rw [scL_length]; exact hlt
        obtain ⟨gB, rfl, _, hgB, x0, _⟩ := hoB.nat hkl
        rw [scL_get] at x0
        have hs := sc_lt_len hT hlt
        have hpl : W.length - 1 - sc W k < (stO W k).length := by rw [stO_length]; omega
        obtain ⟨g', e', _, _, y0, yf⟩ := hom.nat hpl
        simp only [Option.some.injEq, Addr.mk.injEq, and_true] at e'
        subst e'
        have ho2 := hom.set (W.length - 1 - sc W k) (.int .i64 (k : Nat))
        rw [ints_casts_set] at ho2
        have HO2 : Hid (Own (wr.setCell ⟨w1.heap.size, W.length - 1 - sc W k, none⟩ (.int .i64 (k : Int))) w1.heap.size (w1.heap.size + 1) 3 (some ⟨w1.heap.size, 0, none⟩) W.length (ints (casts (stO W (k + 1))))) := Lib.hid ho2
        have HOB := Lib.hid (hoB.setCell (p := ⟨w1.heap.size, W.length - 1 - sc W k, none⟩) (Or.inl (Nat.lt_succ_self _)) (.int .i64 (k : Int)))
        have hbs := hb.setCell (p := ⟨w1.heap.size, W.length - 1 - sc W k, none⟩) (Nat.le_refl _) (.int .i64 (k : Int))
        have HX := Lib.hid (show ((W.length : Int) - 1 - (sc W k : Nat)).toNat = W.length - 1 - sc W k by omega)
        have hx := HX.out
        generalize (stO W k)[W.length - 1 - sc W k] = v0 at y0
        clear ho2 hom hoB hpl hkl
        have b1 : (0 : Int) ≤ (W.length : Int) - 1 - (sc W k : Nat) := by omega
        have b2 : (W.length : Int) - 1 - (sc W k : Nat) < (W.length : Int) := by omega
        generalize sc W k = x at *
        generalize W.length - 1 - x = y at *
        go_wp2
        go_roundw
        case rel => exact ⟨k + 1, by omega, by go_num, HO2.out, HOB.out, hbs, by simpa using hzw⟩
        case measure => simp [intOf]; omega
      · obtain rfl : k = W.length := by omega
        have hz := hbw.size
        have HOm := Lib.hid (hom.mono (lo' := w.heap.size) (hi' := wr.heap.size) hz (by omega))
        clear hom hoB
        go_wp2
        refine bodyPost_ret (v := .tuple #[.slice (some ⟨w1.heap.size, 0, none⟩) W.length W.length, .bool true]) (by simp [results, Try.results30, go_sem]) rfl ?_
        exact ⟨some ⟨w1.heap.size, 0, none⟩, W.length, by rw [casts_length, stO_length], HOm.out, below_trans hbw hb⟩
end Go.Proofs.Ytboekpmaefcmdaa
