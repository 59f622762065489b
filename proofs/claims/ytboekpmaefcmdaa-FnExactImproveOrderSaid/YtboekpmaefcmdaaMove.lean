/- l08Move, walked. -/
import Derived.Test.YtboekpmaefcmdaaImproved
import Derived.Deep.RegionHeld3
namespace Go.Proofs.Ytboekpmaefcmdaa
open Go.RowKit

theorem cell_oneM (w : World) (v : Value) (t : TypeId) : (w.alloc (.cells #[v] t)).cell? ⟨w.heap.size, 0, none⟩ = some v := by go_simp
theorem take_lenM (out : List Int) (j : Nat) (h : j ≤ out.length) : j = (out.take j).length := by rw [List.length_take]; omega
theorem wp_pushSome {o : Oper} {a : Act} {w : World} {K : Act → World → Prop} {Q : Exit → Act → World → Prop} (s x : Operand)
    (ho : o.op = .call { callee := .builtin .append, args := #[s, x], argTypes := #[22, 22] })
    (lo hi B : Nat) (g0 : Nat) (A2 : Option Addr) (c n m c2 r : Nat) (zs ys : List Int) (hs : a.eval s = .slice (some ⟨g0, 0, none⟩) n c) (hx : a.eval x = .slice A2 m c2)
    (hn : n = zs.length) (hm : m = ys.length) (hr : r = n + m) (hown : Own w lo hi 3 (some ⟨g0, 0, none⟩) c (ints zs)) (hrow : Row w B A2 (ints ys)) (hl : n + m ≤ 1099511627776) (hlo : lo ≤ w.heap.size) (hhi : hi ≤ w.heap.size)
    (h : ∀ g' c' w', Own w' lo w'.heap.size 3 (some ⟨g', 0, none⟩) c' (ints (zs ++ ys)) → Only lo hi w w' → K (a.put o.dst (.slice (some ⟨g', 0, none⟩) r c')) w') : Oper.wp Try.prog o a w K Q := by
  subst hn hm hr
  obtain ⟨i0, hi0, hz0, hz1, hz2⟩ := info_parts int_info
  have hown' := hown.ownsRow
  rw [ints_length] at hown'
  cases A2 with
  | none =>
    have hys : ys = [] := by
      rcases Nat.eq_zero_or_pos ys.length with h0 | h0
      · exact List.eq_nil_of_length_eq_zero h0
      · obtain ⟨b, off, e, _⟩ := hrow (by rw [ints_length]; exact h0)
        cases e
    subst hys
    have hrun := run_append_nothing (P := Try.prog) w 22 o.type 3 i0 Try.underlying22 hi0 hown (n := zs.length) (by rw [ints_length]) c2
    unfold Oper.wp execOp
    simp only [List.length_nil] at hx
    simp only [ho, resolve, invoke, builtin, Sem.run_bind, Sem.run_pure, Result.andThen_ok, List.map_toArray, List.map_cons, List.map_nil, hs, hx, hrun]
    refine h g0 c w ?_ (Only.refl _ _ _)
    rw [List.append_nil]
    exact hown.mono (Nat.le_refl _) hhi
  | some ad =>
    have hcells : ∀ j u, (ints ys)[j]? = some u → w.cell? (ad.add j) = some u := by
      intro j u hu
      obtain ⟨b, off, e, _, hc⟩ := hrow (by have := (List.getElem?_eq_some_iff.1 hu).1; omega)
      obtain rfl := Option.some.inj e
      have e : (⟨b, off, none⟩ : Addr).add j = ⟨b, off + j, none⟩ := by unfold Addr.add; split <;> simp_all
      rw [e]
      exact hc j u hu
    refine wp_append_own w s x _ ho lo 3 i0 _ 1 8 Try.underlying22 hi0 hz0 hz1 hz2 rfl (by decide) _ zs.length (ints zs) hs hown' ad ys.length c2 (ints ys) hx (by simp [ints]) hcells ?_ ?_ ?_ hlo ?_
    · intro u hu
      unfold ints at hu
      rw [List.mem_map] at hu
      obtain ⟨z, _, rfl⟩ := hu
      rfl
    · unfold maxLen; omega
    · omega
    · intro v' w' h1 h2 h5
      obtain ⟨A', c', rfl, hlen, ho'⟩ := own_of_ownsRow h1
      have e : (ints zs ++ ints ys).length = zs.length + ys.length := by simp [ints]
      rw [e] at h5 ⊢
      have hA : ∃ g', A' = some ⟨g', 0, none⟩ := by
        rcases ho' with ⟨rfl, hv, rfl⟩ | ⟨g, cur, rfl, _⟩
        · have h6 : zs.length + ys.length = 0 := by rw [← e, hv]; rfl
          have h7 := (h5.1 (by rw [h6])).1
          cases h7
        · exact ⟨g, rfl⟩
      obtain ⟨g', rfl⟩ := hA
      refine h g' c' w' ?_ (only_of_grown hown h2)
      simpa [ints] using ho'
theorem step_pushSome {ops : Array Oper} {o : Oper} {a : Act} {w : World} {K : Act → World → Prop} {Q : Exit → Act → World → Prop} {E : Prop} (hgd : o.guard = none) (s x : Operand)
    (ho : o.op = .call { callee := .builtin .append, args := #[s, x], argTypes := #[22, 22] })
    (lo hi B : Nat) (g0 : Nat) (A2 : Option Addr) (c n m c2 r : Nat) (zs ys : List Int) (hs : a.eval s = .slice (some ⟨g0, 0, none⟩) n c) (hx : a.eval x = .slice A2 m c2)
    (hn : n = zs.length) (hm : m = ys.length) (hr : r = n + m) (hown : Own w lo hi 3 (some ⟨g0, 0, none⟩) c (ints zs)) (hrow : Row w B A2 (ints ys)) (hl : n + m ≤ 1099511627776) (hlo : lo ≤ w.heap.size) (hhi : hi ≤ w.heap.size)
    (h : ∀ g' c' w', Own w' lo w'.heap.size 3 (some ⟨g', 0, none⟩) c' (ints (zs ++ ys)) → Only lo hi w w' → K (a.put o.dst (.slice (some ⟨g', 0, none⟩) r c')) w') :
    if Region.wanted o (yielded ops a.tmps) = true then Oper.wp Try.prog o a w K Q else E := by
  have hw : Region.wanted o (yielded ops a.tmps) = true := by simp [Region.wanted, hgd]
  rw [if_pos hw]
  exact wp_pushSome s x ho lo hi B g0 A2 c n m c2 r zs ys hs hx hn hm hr hown hrow hl hlo hhi h
set_option maxHeartbeats 3200000 in
theorem l08Move_any (bo oo c' i k : Nat) (os : List Int) (w : World) (h' : Row w w.heap.size (some ⟨bo, oo, none⟩) (ints os)) (hi : i < os.length) (hk : k < os.length) (h8 : os.length ≤ 8) (hc' : os.length ≤ c') (hm : c' ≤ 9223372036854775807) :
    Calls Try.prog 109 #[.slice (some ⟨bo, oo, none⟩) os.length c', .int .i64 (i : Int), .int .i64 (k : Int)] w (NewInts w 3 (mvL os i k)) := by
  obtain ⟨b9, o9, e9, hb9, x0⟩ := h'.int hi
  simp only [Option.some.injEq, Addr.mk.injEq, and_true] at e9
  obtain ⟨rfl, rfl⟩ := e9
  rw [← getD_lt _ _ 0 hi] at x0
  have HMV : Hid (mvL os i k = (os.eraseIdx i).take k ++ os.getD i 0 :: (os.eraseIdx i).drop k) := Lib.hid rfl
  have hml := mvL_length os i k hi hk
  have HER := Lib.hid (erase_take os i)
  have hel := erase_len os i hi
  have HF0 := Lib.hid (take_lenM os i (by omega))
  have HD0 : Hid (os.length - (i + 1) = (os.drop (i + 1)).length) := Lib.hid (by rw [List.length_drop])
  have HT0 := Lib.hid (Row.intTake h' i)
  have HDR := Lib.hid (h'.dropAt (k := i + 1))
  have HML := Lib.hid hml
  have HEL := Lib.hid hel
  clear hml hel
  generalize os.getD i 0 = a at *
  generalize os.eraseIdx i = rest at *
  generalize mvL os i k = out at *
  have hcap : (i + 1 < c' ∧ (i : Int) + 1 < (c' : Int) ∧ ¬ (c' = i + 1) ∧ ¬ (i + 1 = c')) ∨ (c' = i + 1 ∧ os.length = i + 1) := by omega
  have b1 : (0 : Int) ≤ (i : Int) := by omega
  have b2 : (i : Int) ≤ (os.length : Int) := by omega
  have b3 : (0 : Int) ≤ (i : Int) + 1 := by omega
  have b4 : (i : Int) + 1 ≤ (os.length : Int) := by omega
  have b5 : IntKind.i64.wrap ((i : Int) + 1) = (i : Int) + 1 := by rw [IntKind.wrap_i64]; omega
  have b6 : (i : Int) ≤ (c' : Int) := by omega
  have b7 : ((i : Int) + 1).toNat = i + 1 := by omega
  have HE0 := Lib.hid (Own.made w w.heap.size 3 #[] (Nat.le_refl _) (by simp))
  have hbA : Below w.heap.size w (w.alloc (.cells #[] 3)) := by go_grown
  have HTA := Lib.hid (HT0.out.alloc (Nat.le_refl _) (.cells #[] 3))
  rcases hcap with ⟨q1, q2, q3, q4⟩ | ⟨rfl, e2⟩
  ·
    go_enter Try.func109, Try.ntmps109
    go_wp2
    go_region_held3 (fun _ => True) (trivial)
      (first
        | (refine step_pushSome rfl (.tmp 9) (.tmp 12) (by rfl) w.heap.size (w.heap.size + 1) w.heap.size w.heap.size (some ⟨bo, oo, none⟩) 0 0 i _ i [] (os.take i) (by rfl) (by rfl) rfl HF0.out (Nat.zero_add _).symm HE0.out HTA.out (by omega) (by simp) (by simp) ?_; intro g2 d2 w2 ho2 hg2)
        | (refine step_pushSome rfl (.tmp 13) (.tmp 17) (by rfl) w.heap.size w2.heap.size w.heap.size g2 _ d2 i _ _ (os.length - 1) (os.take i) (os.drop (i + 1)) (by rfl) (by rfl) HF0.out (by have := HD0.out; omega) (by have := HD0.out; omega) ho2 (HDR.out.below (by first | exact below_only hbA hg2 (Nat.le_refl _) (by simp) | exact below_only hbA.drew hg2 (Nat.le_refl _) (by simp)) (Nat.le_refl _)) (by omega) (by have := hg2.size; simp at this; omega) (Nat.le_refl _) ?_; intro g3 d3 w3 ho3 hg3))
    have hb2 : Below w.heap.size w w2 := by first | exact below_only hbA hg2 (Nat.le_refl _) (by simp) | exact below_only hbA.drew hg2 (Nat.le_refl _) (by simp)
    have hb3 := below_only hb2 hg3 (Nat.le_refl _) hb2.size
    rw [← HER.out] at ho3
    have hkd : os.length - 1 ≤ d3 := by have := ho3.cap.1; rw [ints_length, HEL.out] at this; exact this
    have hdm : d3 ≤ 9223372036854775807 := by have := ho3.cap.2; unfold maxLen at this; exact this
    have HO3 := Lib.hid ho3
    have HF1 := Lib.hid (take_lenM rest k (by have := HEL.out; omega))
    have HF2 := Lib.hid (Own.made w3 w3.heap.size 3 #[] (Nat.le_refl _) (by simp))
    have HOa := Lib.hid (HO3.out.alloc (Nat.le_refl _) (.cells #[] 3))
    have HF3 := Lib.hid (Row.intTake HOa.out.row k)
    have HDL : Hid (os.length - 1 - k = (rest.drop k).length) := Lib.hid (by rw [List.length_drop, HEL.out])
    have hwz := hb3.size
    have hjd : (k < d3 ∧ (k : Int) < (d3 : Int) ∧ ¬ (d3 = k) ∧ ¬ (k = d3)) ∨ (os.length - 1 ≤ k ∧ k = d3) := by omega
    have hkr : k ≤ os.length - 1 := by omega
    clear ho2 hg2 ho3 hg3
    rcases hjd with ⟨hjd, hjd1, hjd2, hjd3⟩ | ⟨hle, rfl⟩
    all_goals
      go_wp2_with (at_builtin; refine wpList_pushAny rfl (.tmp 19) (.tmp 22) rfl w3.heap.size (w3.heap.size + 1) w3.heap.size (some ⟨w3.heap.size, 0, none⟩) (some ⟨g3, 0, none⟩) 0 0 k _ k [] (rest.take k) rfl rfl rfl HF1.out (Nat.zero_add k).symm HF2.out HF3.out (by omega) (by simp) (by simp) ?_)
      intro A4 d4 w4 ho4 hg4
      have hs4 : w3.heap.size + 1 ≤ w4.heap.size := by simpa using hg4.size
      have HO4 := Lib.hid ho4
      have HP4 := Lib.hid (HOa.out.only hg4 (by simp) (.inl (Nat.le_refl _)))
      have hb4 := below_only (hb3.alloc hwz (.cells #[] 3)) hg4 hwz (by simp; omega)
      have x4 := (hb4.cell (p := ⟨bo, oo + i, none⟩) hb9).trans x0
      clear ho4 hg4
      go_wp2_with (at_builtin; refine wpList_push rfl (.tmp 24) (.tmp 29) rfl w3.heap.size w4.heap.size A4 d4 k (rest.take k) a w4.heap.size rfl rfl HF1.out (HO4.out.alloc (Nat.le_refl _) _) (cell_oneM _ _ _) (by omega) (by simp; omega) ?_)
      intro A5 d5 w5 ho5 hg5
      have hs5 : w4.heap.size + 1 ≤ w5.heap.size := by simpa using hg5.size
      have HO5 := Lib.hid ho5
      have HP5 := Lib.hid ((HP4.out.alloc (by omega) _).only hg5 (by simp; omega) (.inl (Nat.le_refl _)))
      have hb5 := below_only (hb4.alloc (by omega) _) hg5 hwz (by simp; omega)
      have HR5 := Lib.hid (HP5.out.row.dropAt (k := k))
      clear ho5 hg5
      go_wp2_with (at_builtin; refine wpList_pushAny rfl (.tmp 31) (.tmp 34) rfl w3.heap.size w5.heap.size w3.heap.size A5 _ d5 (k + 1) _ _ _ (rest.take k ++ [a]) (rest.drop k) rfl rfl (by rw [List.length_append, ← HF1.out]; rfl) (by first | exact HDL.out | (have := HDL.out; omega)) rfl HO5.out (by first | exact HR5.out | (simpa using HR5.out) | exact Row.empty _ (List.drop_eq_nil_of_le (by rw [HEL.out]; omega))) (by omega) (by omega) (Nat.le_refl _) ?_)
      intro A6 d6 w6 ho6 hg6
      have hb6 := below_only hb5 hg6 hwz (by omega)
      have HO6 := Lib.hid (ho6.mono hwz (Nat.le_refl _))
      clear ho6 hg6
      go_wp2
      go_ret
      exact ⟨A6, d6, ret_slice (by rw [HML.out]; omega), by rw [HMV.out]; (first | exact HO6.out | simpa using HO6.out), hb6⟩
  ·
    have e2' : os.length ≤ i + 1 := by omega
    have b8 : (i : Int) ≤ ((i + 1 : Nat) : Int) := by omega
    have b9 : (i : Int) ≤ (i : Int) + 1 := by omega
    clear e2
    go_enter Try.func109, Try.ntmps109
    go_wp2
    go_region_held3 (fun _ => True) (trivial)
      (first
        | (refine step_pushSome rfl (.tmp 9) (.tmp 12) (by rfl) w.heap.size (w.heap.size + 1) w.heap.size w.heap.size (some ⟨bo, oo, none⟩) 0 0 i _ i [] (os.take i) (by rfl) (by rfl) rfl HF0.out (Nat.zero_add _).symm HE0.out HTA.out (by omega) (by simp) (by simp) ?_; intro g2 d2 w2 ho2 hg2)
        | (refine step_pushSome rfl (.tmp 13) (.tmp 17) (by rfl) w.heap.size w2.heap.size w.heap.size g2 _ d2 i _ _ (os.length - 1) (os.take i) (os.drop (i + 1)) (by rfl) (by rfl) HF0.out (by have := HD0.out; omega) (by have := HD0.out; omega) ho2 (Row.empty _ (List.drop_eq_nil_of_le (by omega))) (by omega) (by have := hg2.size; simp at this; omega) (Nat.le_refl _) ?_; intro g3 d3 w3 ho3 hg3))
    have hb2 : Below w.heap.size w w2 := by first | exact below_only hbA hg2 (Nat.le_refl _) (by simp) | exact below_only hbA.drew hg2 (Nat.le_refl _) (by simp)
    have hb3 := below_only hb2 hg3 (Nat.le_refl _) hb2.size
    rw [← HER.out] at ho3
    have hkd : os.length - 1 ≤ d3 := by have := ho3.cap.1; rw [ints_length, HEL.out] at this; exact this
    have hdm : d3 ≤ 9223372036854775807 := by have := ho3.cap.2; unfold maxLen at this; exact this
    have HO3 := Lib.hid ho3
    have HF1 := Lib.hid (take_lenM rest k (by have := HEL.out; omega))
    have HF2 := Lib.hid (Own.made w3 w3.heap.size 3 #[] (Nat.le_refl _) (by simp))
    have HOa := Lib.hid (HO3.out.alloc (Nat.le_refl _) (.cells #[] 3))
    have HF3 := Lib.hid (Row.intTake HOa.out.row k)
    have HDL : Hid (os.length - 1 - k = (rest.drop k).length) := Lib.hid (by rw [List.length_drop, HEL.out])
    have hwz := hb3.size
    have hjd : (k < d3 ∧ (k : Int) < (d3 : Int) ∧ ¬ (d3 = k) ∧ ¬ (k = d3)) ∨ (os.length - 1 ≤ k ∧ k = d3) := by omega
    have hkr : k ≤ os.length - 1 := by omega
    clear ho2 hg2 ho3 hg3
    rcases hjd with ⟨hjd, hjd1, hjd2, hjd3⟩ | ⟨hle, rfl⟩
    all_goals
      go_wp2_with (at_builtin; refine wpList_pushAny rfl (.tmp 19) (.tmp 22) rfl w3.heap.size (w3.heap.size + 1) w3.heap.size (some ⟨w3.heap.size, 0, none⟩) (some ⟨g3, 0, none⟩) 0 0 k _ k [] (rest.take k) rfl rfl rfl HF1.out (Nat.zero_add k).symm HF2.out HF3.out (by omega) (by simp) (by simp) ?_)
      intro A4 d4 w4 ho4 hg4
      have hs4 : w3.heap.size + 1 ≤ w4.heap.size := by simpa using hg4.size
      have HO4 := Lib.hid ho4
      have HP4 := Lib.hid (HOa.out.only hg4 (by simp) (.inl (Nat.le_refl _)))
      have hb4 := below_only (hb3.alloc hwz (.cells #[] 3)) hg4 hwz (by simp; omega)
      have x4 := (hb4.cell (p := ⟨bo, oo + i, none⟩) hb9).trans x0
      clear ho4 hg4
      go_wp2_with (at_builtin; refine wpList_push rfl (.tmp 24) (.tmp 29) rfl w3.heap.size w4.heap.size A4 d4 k (rest.take k) a w4.heap.size rfl rfl HF1.out (HO4.out.alloc (Nat.le_refl _) _) (cell_oneM _ _ _) (by omega) (by simp; omega) ?_)
      intro A5 d5 w5 ho5 hg5
      have hs5 : w4.heap.size + 1 ≤ w5.heap.size := by simpa using hg5.size
      have HO5 := Lib.hid ho5
      have HP5 := Lib.hid ((HP4.out.alloc (by omega) _).only hg5 (by simp; omega) (.inl (Nat.le_refl _)))
      have hb5 := below_only (hb4.alloc (by omega) _) hg5 hwz (by simp; omega)
      have HR5 := Lib.hid (HP5.out.row.dropAt (k := k))
      clear ho5 hg5
      go_wp2_with (at_builtin; refine wpList_pushAny rfl (.tmp 31) (.tmp 34) rfl w3.heap.size w5.heap.size w3.heap.size A5 _ d5 (k + 1) _ _ _ (rest.take k ++ [a]) (rest.drop k) rfl rfl (by rw [List.length_append, ← HF1.out]; rfl) (by first | exact HDL.out | (have := HDL.out; omega)) rfl HO5.out (by first | exact HR5.out | (simpa using HR5.out) | exact Row.empty _ (List.drop_eq_nil_of_le (by rw [HEL.out]; omega))) (by omega) (by omega) (Nat.le_refl _) ?_)
      intro A6 d6 w6 ho6 hg6
      have hb6 := below_only hb5 hg6 hwz (by omega)
      have HO6 := Lib.hid (ho6.mono hwz (Nat.le_refl _))
      clear ho6 hg6
      go_wp2
      go_ret
      exact ⟨A6, d6, ret_slice (by rw [HML.out]; omega), by rw [HMV.out]; (first | exact HO6.out | simpa using HO6.out), hb6⟩
end Go.Proofs.Ytboekpmaefcmdaa
