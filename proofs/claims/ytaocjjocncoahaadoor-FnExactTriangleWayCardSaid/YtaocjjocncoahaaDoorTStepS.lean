/- TriangleSteps, walked on the reference's side. -/
import Derived.Test.YtaocjjocncoahaaDoorDist
import Derived.Test.YtaocjjocncoahaaDoorTwo
import Derived.BigRegion
namespace Go.Proofs.YtaocjjocncoahaaDoor
set_option linter.unusedVariables false
set_option linter.unusedSimpArgs false
open Go.RowKit

def rTriangleSteps (s : Int) (zs : List Int) (t : Int) (ys : List Int) : Int := if rTwo s zs t ys then dI (FS (toW ys)) (toW zs) else -1
/-- Two valid tours of the same size, five players at the most, with the same scores. -/
theorem two_facts {s t : Int} {zs ys : List Int} (h : rTwo s zs t ys = true) : ∃ W V : List Nat, zs = casts W ∧ ys = casts V ∧ s = (W.length : Int) ∧ t = (W.length : Int) ∧ IsT W ∧ IsT V ∧ V.length = W.length ∧ W.length ≤ 5 ∧ scL W = scL V := by
  unfold rTwo at h
  simp only [Bool.and_eq_true, decide_eq_true_eq, beq_iff_eq] at h
  obtain ⟨⟨h1, h2⟩, h3, h4, h5⟩ := h
  obtain ⟨W, rfl, rfl, hW⟩ := ok_tour h1
  obtain ⟨V, rfl, e, hV⟩ := ok_tour h2
  rw [toW_casts, toW_casts] at h5
  exact ⟨W, V, rfl, rfl, rfl, by omega, hW, hV, by omega, by omega, h5⟩
set_option maxRecDepth 20000 in
theorem sTriangleSteps_any (A : Option Addr) (c : Nat) (s : Int) (zs : List Int) (A' : Option Addr) (c' : Nat) (t : Int) (ys : List Int) (w : World) (h : Row w w.heap.size A (ints zs)) (hl : zs.length ≤ 1099511627776) (h' : Row w w.heap.size A' (ints ys)) (hl' : ys.length ≤ 1099511627776) :
    Calls Tryd.prog 12 #[.agg #[.int .i64 s, .slice A zs.length c], .agg #[.int .i64 t, .slice A' ys.length c']] w fun e w' => e = .returned (.int .i64 (rTriangleSteps s zs t ys)) ∧ Below w.heap.size w w' := by
  have H1 := Lib.hid (fun W' hr hr' => sTwo_any A c s zs A' c' t ys W' hr hl hr' hl')
  obtain ⟨wb, hwb⟩ : ∃ wb, wb = (w.alloc (.cells #[.int .i64 s, .slice A zs.length c] 24)).alloc (.cells #[.int .i64 t, .slice A' ys.length c'] 24) := ⟨_, rfl⟩
  have hbw : Below w.heap.size w wb := by rw [hwb]; go_grown
  have hzb : w.heap.size + 2 ≤ wb.heap.size := by rw [hwb]; simp
  have HT := Lib.hid (fun W' (hW : Below wb.heap.size wb W') => (by subst hwb; exact two2 hW :
    (Below wb.heap.size wb W' ∧ W'.cell? ⟨w.heap.size, 0, none⟩ = some (.int .i64 s) ∧ W'.cell? ⟨w.heap.size, 1, none⟩ = some (.slice A zs.length c) ∧ W'.cell? ⟨w.heap.size + 1, 0, none⟩ = some (.int .i64 t) ∧ W'.cell? ⟨w.heap.size + 1, 1, none⟩ = some (.slice A' ys.length c'))))
  have h := Lib.hid (fun W' (hW : Below wb.heap.size wb W') => (h.rowAt (hbw.trans (hW.mono (by omega))) (Nat.le_refl _)))
  have h' := Lib.hid (fun W' (hW : Below wb.heap.size wb W') => (h'.rowAt (hbw.trans (hW.mono (by omega))) (Nat.le_refl _)))
  go_enter Tryd.func12, Tryd.ntmps12
  go_wp2_with fail
  rw [← hwb]
  clear hwb
  refine (H1.out wb (h.out _ (Below.refl _ _)) (h'.out _ (Below.refl _ _))).mono ?_
  rintro e w2 ⟨rfl, hb2⟩
  cases hr : rTwo s zs t ys with
  | false =>
    have HN : Hid (rTriangleSteps s zs t ys = -1) := Lib.hid (by unfold rTriangleSteps; rw [hr]; rfl)
    clear hr
    go_wp2
    go_ret
    exact ⟨ret_int HN.out.symm, hbw.trans (hb2.mono (by omega))⟩
  | true =>
    obtain ⟨W, V, rfl, rfl, rfl, rfl, hW, hV, hVl, h5, hsc⟩ := two_facts hr
    have HN : Hid (rTriangleSteps (W.length : Int) (casts W) (W.length : Int) (casts V) = dI (FS V) W) := Lib.hid (by unfold rTriangleSteps; rw [hr, if_pos rfl, toW_casts, toW_casts])
    obtain ⟨hbb, k0, k1, j0, j1⟩ := HT.out w2 hb2
    rw [casts_length] at k1 j1
    rw [casts_length, casts_length, hVl] at HT
    rw [hVl] at j1
    rw [casts_length, casts_length, hVl]
    have HD := Lib.hid (fun W' hr => (by have := sDist_any A' c' V W' hV (by omega) hr; rwa [hVl] at this : Calls Tryd.prog 32 #[.agg #[.int .i64 (W.length : Int), .slice A' W.length c']] W' (NewInts W' 3 (outV W.length (FS V)))))
    have HNm := Lib.hid (fun W' hr => sNumber_any A c W W' hW hr)
    have hnW : numW W < (outV W.length (FS V)).length := outV_lt _ _ _ rfl
    have HA := Lib.hid (outV_at W.length (FS V) W hW rfl hnW)
    have hol := Lib.hid (outV_length W.length (FS V))
    have hnW2 : numW W < 2 ^ off W.length W.length := numW_lt W
    clear hr hl hl' hsc h5 hb2 H1
    generalize hov : outV W.length (FS V) = ov at *
    generalize hdv : dI (FS V) W = dv at *
    generalize numW W = nW at *
    clear hov hdv hW hV hnW2
    go_wp2
    have hbb := hbb.drew
    refine wp_region_held_drew (S := fun w' => w'.cell? ⟨w.heap.size, 0, none⟩ = some (.int .i64 (W.length : Int)) ∧ w'.cell? ⟨w.heap.size, 1, none⟩ = some (.slice A W.length c) ∧ w'.cell? ⟨w.heap.size + 1, 0, none⟩ = some (.int .i64 (W.length : Int)) ∧ w'.cell? ⟨w.heap.size + 1, 1, none⟩ = some (.slice A' W.length c')) (by kernel_rfl) ?_ (fun hHeld => ?_)
    · (try dsimp only); exact ⟨k0, k1, j0, j1⟩
    refine wpAnyH_take (i := 0) (v := ?_) rfl (by kernel_rfl) (by kernel_rfl) (by kernel_rfl) (fun _ _ _ h => h) (Or.inl ⟨by rfl, ?_⟩) (by assumption) ?_
    rotate_left
    · (intro wq hSw; (try dsimp only at hSw); (go_simp <;> with_reducible rfl))
    try simp only [Act.put, List.getElem_toArray, List.getElem_cons_zero, List.getElem_cons_succ, List.setIfInBounds_toArray, List.set_cons_zero, List.set_cons_succ]
    refine wpAnyH_take (i := 2) (v := ?_) rfl (by kernel_rfl) (by kernel_rfl) (by kernel_rfl) (fun _ _ _ h => h) (Or.inl ⟨by rfl, ?_⟩) (by assumption) ?_
    rotate_left
    · (intro wq hSw; (try dsimp only at hSw); (go_simp <;> with_reducible rfl))
    try simp only [Act.put, List.getElem_toArray, List.getElem_cons_zero, List.getElem_cons_succ, List.setIfInBounds_toArray, List.set_cons_zero, List.set_cons_succ]
    refine wpAnyH_ready (rs := [1]) (by kernel_rfl) (by simp) ?_
    refine AllReadyH.cons rfl (fun K hK => ?_) AllReadyH.nil
    go_simp
    (go_at_call 32; (with_reducible refine (HD.out _ (h'.out _ hbb)).mono ?_); rintro e wq ⟨Go, d, rfl, oa, hbq⟩; obtain ⟨go, eG, _, _, hco, _⟩ := oa.int (k := nW) hnW; rw [HA.out] at hco; subst eG; obtain ⟨hbb, k0, k1, j0, j1⟩ := HT.out _ (below_trans hbb hbq); go_wp2_with fail)
    refine hK.out _ _ ?_ (fun hHeld => ?_)
    · (try dsimp only); exact ⟨k0, k1, j0, j1⟩
    clear hK K
    try simp only [Act.put, List.getElem_toArray, List.getElem_cons_zero, List.getElem_cons_succ, List.setIfInBounds_toArray, List.set_cons_zero, List.set_cons_succ]
    refine wpAnyH_ready (rs := [3]) (by kernel_rfl) (by simp) ?_
    refine AllReadyH.cons rfl (fun K hK => ?_) AllReadyH.nil
    go_simp
    (go_at_call 33; (with_reducible refine (HNm.out _ (h.out _ hbb)).mono ?_); rintro e wr ⟨rfl, hbr⟩; have hco := (hbr.cell (World.block_lt_of_cell? _ _ hco)).trans hco; obtain ⟨hbb, k0, k1, j0, j1⟩ := HT.out _ (below_trans hbb hbr); go_wp2_with fail)
    refine hK.out _ _ ?_ (fun hHeld => ?_)
    · (try dsimp only); exact ⟨k0, k1, j0, j1⟩
    clear hK K
    try simp only [Act.put, List.getElem_toArray, List.getElem_cons_zero, List.getElem_cons_succ, List.setIfInBounds_toArray, List.set_cons_zero, List.set_cons_succ]
    refine wpAnyH_take (i := 4) (v := ?_) rfl (by kernel_rfl) (by kernel_rfl) (by kernel_rfl) (fun _ _ _ h => h) (Or.inl ⟨by rfl, ?_⟩) (by assumption) ?_
    rotate_left
    · (intro wq hSw; (try dsimp only at hSw); (go_simp <;> with_reducible rfl))
    try simp only [Act.put, List.getElem_toArray, List.getElem_cons_zero, List.getElem_cons_succ, List.setIfInBounds_toArray, List.set_cons_zero, List.set_cons_succ]
    refine wpAnyH_ready (rs := [5]) (by kernel_rfl) (by simp) ?_
    refine AllReadyH.cons rfl (fun K hK => ?_) AllReadyH.nil
    go_simp
    skip
    refine hK.out _ _ ?_ (fun hHeld => ?_)
    · (try dsimp only); exact ⟨k0, k1, j0, j1⟩
    clear hK K
    try simp only [Act.put, List.getElem_toArray, List.getElem_cons_zero, List.getElem_cons_succ, List.setIfInBounds_toArray, List.set_cons_zero, List.set_cons_succ]
    refine wpAnyH_take (i := 6) (v := ?_) rfl (by kernel_rfl) (by kernel_rfl) (by kernel_rfl) (fun _ _ _ h => h) (Or.inl ⟨by rfl, ?_⟩) (by assumption) ?_
    rotate_left
    · (intro wq hSw; (try dsimp only at hSw); (go_simp <;> with_reducible rfl))
    try simp only [Act.put, List.getElem_toArray, List.getElem_cons_zero, List.getElem_cons_succ, List.setIfInBounds_toArray, List.set_cons_zero, List.set_cons_succ]
    refine wpAnyH_done (by kernel_rfl) ?_ _
    go_wp2
    go_ret
    exact ⟨ret_int HN.out.symm, hbw.trans (hbb.mono (by omega))⟩
end Go.Proofs.YtaocjjocncoahaaDoor
