/- slices.Insert of one number into a list of one's own. -/
import Derived.Test.YtkdfjkocfejfjaaLaysI
namespace Go.Proofs.Ytkdfjkocfejfjaa
open Go.RowKit

theorem below_setCells {B g : Nat} (h : B ≤ g) : ∀ (vs : List Value) (a w : World) (o : Nat), Below B a w → Below B a (w.setCells g o vs)
  | [], a, w, o, hb => hb
  | v :: r, a, w, o, hb => below_setCells h r a _ _ (hb.setCell (p := ⟨g, o, none⟩) h v)
theorem own_grown (w : World) (lo : Nat) (t : TypeId) (xs : List Value) (cap : Nat) (hlo : lo ≤ w.heap.size) (h1 : xs.length ≤ cap) (h2 : cap ≤ maxLen) :
    Own (w.alloc (.cells (xs.toArray ++ Builtin.zeroCells (Value.int .i64 0).cells (cap - xs.length)) t)) lo (w.heap.size + 1) t (some ⟨w.heap.size, 0, none⟩) cap xs := by
  have hs : (Value.int .i64 0).cells.size = 1 := rfl
  refine .inr ⟨w.heap.size, _, rfl, hlo, Nat.lt_succ_self _, heap_alloc_new w _, h1, h2, ?_, ?_⟩
  · rw [Array.size_append, size_zeroCells, hs, List.size_toArray]; omega
  · rw [Array.toList_append]
    exact List.take_left' (by simp)
theorem one_ints (zs : List Int) : ∀ v ∈ ints zs, v.oneCell' = true := by
  intro v hv
  unfold ints at hv
  obtain ⟨z, _, rfl⟩ := List.mem_map.1 hv
  rfl
theorem ints_nil {zs : List Int} (h : ints zs = []) : zs = [] := by
  cases zs with
  | nil => rfl
  | cons z zs => simp [ints] at h
def Inserted (w : World) (lo hi : Nat) (zs : List Int) (i : Nat) (x : Int) (e : Ending) (w' : World) : Prop :=
  ∃ A' c', e = .returned (.slice A' (zs.length + 1) c') ∧ Own w' lo w'.heap.size 3 A' c' (ints (insAt zs i x)) ∧ Only lo hi w w'
set_option maxHeartbeats 1000000 in
theorem insert_any (A : Option Addr) (c : Nat) (zs : List Int) (x : Int) (i vb lo hi : Nat) (w : World) (h : Own w lo hi 3 A c (ints zs)) (hi' : i ≤ zs.length)
    (hv : w.heap[vb]? = some (.cells #[.int .i64 x] 3 (0, 0))) (hne : vb < lo ∨ hi ≤ vb) (hhi : hi ≤ w.heap.size) (hlo : lo ≤ w.heap.size) (hl : zs.length ≤ 1000000) :
    Calls Try.prog 81 #[.slice A zs.length c, .int .i64 (i : Int), .slice (some ⟨vb, 0, none⟩) 1 1] w (Inserted w lo hi zs i x) := by
  have hvs : ∀ j v, [Value.int .i64 x][j]? = some v → w.cell? ⟨vb, 0 + j, none⟩ = some v := fun j v hj => by
    rw [cell_of_row w vb (0 + j) _ _ _ hv, Nat.zero_add]
    match j, hj with
    | 0, hj => simpa using hj
    | j + 1, hj => simp at hj
  have h1v : ∀ v ∈ [Value.int .i64 x], v.oneCell' = true := fun v hv => by rw [List.mem_singleton] at hv; subst hv; rfl
  have hlen := ints_length zs
  rcases h with ⟨rfl, hz, rfl⟩ | ⟨g, cur, rfl, ga, gb, hh, h1, h2, h3, h4⟩
  · have hz := ints_nil hz
    subst hz
    obtain rfl : i = 0 := by simpa using hi'
    have hx := Any2.slices_Insert_int_end_grow laysI none 0 0 vb 0 1 1 [] [Value.int .i64 x] w (by omega) (Nat.le_refl _) (by omega) (by omega) rfl rfl (fun _ => rfl) (fun a h => by cases h) hvs h1v
    refine Calls.mono hx ?_
    rintro e w' ⟨rfl, rfl⟩
    refine ⟨_, _, rfl, ?_, ?_⟩
    · exact (own_grown w.drew lo 3 [Value.int .i64 x] _ hlo (grownCap_ge w (0 + 1) 0 _) (grownCap_le_maxLen w (0 + 1) 0 _ (by unfold maxLen; omega))).mono (Nat.le_refl _) (by simp)
    · exact ((Only.refl lo hi w).drew).alloc _
  · rw [hlen] at h1 h4
    unfold maxLen at h2
    have hcs : ∀ j v, (ints zs)[j]? = some v → w.cell? ⟨g, 0 + j, none⟩ = some v := fun j v hj => by
      have hjl : j < zs.length := by rw [← hlen]; exact (List.getElem?_eq_some_iff.1 hj).1
      rw [cell_of_row w g (0 + j) cur _ (0, 0) hh, Nat.zero_add, ← hj, ← h4, List.getElem?_take, if_pos hjl]
      simp
    have hsome : ∀ j, j < c → (w.cell? ⟨g, j, none⟩).isSome = true := fun j hj => by
      rw [cell_of_row w g j cur _ (0, 0) hh, Array.getElem?_eq_getElem (by omega)]
      rfl
    have hfz : ∀ j, w.frozen? ⟨g, j, none⟩ = false := fun j => by simp [World.frozen?, hh]
    have hgw : g < w.heap.size := by omega
    have hcl : cur.toList.length = c := by rw [Array.length_toList, h3]
    by_cases hin : i = zs.length
    · subst hin
      by_cases room : zs.length + 1 ≤ c
      · have hx := Any2.slices_Insert_int_end_room laysI g 0 zs.length c vb 0 1 1 [Value.int .i64 x] w (by omega) room (by omega) rfl
          (fun j hj => hsome _ (by omega)) (fun j _ => hfz _) hvs h1v
        refine Calls.mono hx ?_
        rintro e w' ⟨rfl, rfl⟩
        obtain ⟨cur', e1, e2, e3⟩ := heap_setCells_same [Value.int .i64 x] w g (0 + zs.length) cur _ hh
        have ho := only_setCells ga gb [Value.int .i64 x] w (0 + zs.length)
        refine ⟨_, _, rfl, .inr ⟨g, cur', rfl, ga, Nat.lt_of_lt_of_le hgw ho.size, e1, ?_, by unfold maxLen; omega, e2.trans h3, ?_⟩, ho⟩
        · rw [ints_length, insAt_length _ _ _ (Nat.le_refl _)]; exact room
        · rw [ints_length, insAt_length _ _ _ (Nat.le_refl _), e3, Nat.zero_add, ← ints_insAt]
          have hg := ins_grow cur.toList (ints zs) (.int .i64 x) zs.length zs.length hlen (Nat.le_refl _) (by omega) (by rw [h4, List.take_of_length_le (by omega)])
          rw [List.drop_eq_nil_of_le (show (ints zs).length ≤ zs.length by omega)] at hg ⊢
          exact hg
      · have hx := Any2.slices_Insert_int_end_grow laysI (some ⟨g, 0, none⟩) zs.length c vb 0 1 1 (ints zs) [Value.int .i64 x] w (by omega) h1 (by omega) (by omega) hlen rfl (fun h => by cases h)
          (fun a h j v hj => by
            obtain rfl := Option.some.inj h
            have e : (⟨g, 0, none⟩ : Addr).add j = ⟨g, 0 + j, none⟩ := by unfold Addr.add; split <;> simp_all
            rw [e]
            exact hcs j v hj) hvs h1v
        refine Calls.mono hx ?_
        rintro e w' ⟨rfl, rfl⟩
        have hxl : (ints zs ++ [Value.int .i64 x]).length = zs.length + 1 := by simp [hlen]
        refine ⟨_, _, rfl, ?_, ((Only.refl lo hi w).drew).alloc _⟩
        have hg := (own_grown w.drew lo 3 (ints zs ++ [Value.int .i64 x]) (grownCap w (zs.length + 1) c 3) hlo (by rw [hxl]; exact grownCap_ge w (zs.length + 1) c _) (grownCap_le_maxLen w (zs.length + 1) c _ (by unfold maxLen; omega))).mono (Nat.le_refl lo) (hi' := (w.drew.heap.size + 1)) (Nat.le_refl _)
        rw [hxl] at hg
        have he : ints (insAt zs zs.length x) = ints zs ++ [Value.int .i64 x] := by rw [← ints_insAt, List.take_of_length_le (by omega), List.drop_eq_nil_of_le (by omega)]
        rw [he]
        exact hg.mono (Nat.le_refl _) (by simp)
    · have hilt : i < zs.length := by omega
      by_cases room : zs.length + 1 ≤ c
      · have hvg : vb ≠ g := by omega
        have hx := Any2.slices_Insert_int_shift laysI g 0 zs.length c i vb 0 1 1 (ints zs) [Value.int .i64 x] w hilt (by omega) room (by omega) hvg hlen rfl hcs
          (fun j hj => hsome _ (by omega)) (fun j _ => hfz _) hvs (one_ints zs) h1v 3 3 1 cur.size (by simp [World.shape?, hv]) (by simp [World.shape?, hh]) (by omega) (by simp [World.frozen?, hv]) (by simp [World.frozen?, hv])
        refine Calls.mono hx ?_
        rintro e w' ⟨rfl, rfl⟩
        obtain ⟨cur1, e1, e2, e3⟩ := heap_setCells_same ((ints zs).drop i) w.drew g (0 + (i + 1)) cur _ hh
        obtain ⟨cur', f1, f2, f3⟩ := heap_setCells_same [Value.int .i64 x] _ g (0 + i) cur1 _ e1
        have ho := ((Only.refl lo hi w).drew.trans (only_setCells ga gb ((ints zs).drop i) w.drew (0 + (i + 1)))).trans (only_setCells ga gb [Value.int .i64 x] _ (0 + i))
        refine ⟨_, _, rfl, .inr ⟨g, cur', rfl, ga, Nat.lt_of_lt_of_le hgw ho.size, f1, ?_, by unfold maxLen; omega, f2.trans (e2.trans h3), ?_⟩, ho⟩
        · rw [ints_length, insAt_length _ _ _ hi']; exact room
        · rw [ints_length, insAt_length _ _ _ hi', f3, e3, Nat.zero_add, Nat.zero_add, ← ints_insAt]
          exact ins_shift cur.toList (ints zs) (.int .i64 x) i zs.length hlen hi' (by omega) h4
      · have hx := Any2.slices_Insert_int_grow laysI g 0 zs.length c i vb 0 1 1 (ints zs) [Value.int .i64 x] w hilt (by omega) h1 (by omega) (by omega) hlen rfl hcs hvs (one_ints zs) h1v
        refine Calls.mono hx ?_
        rintro e w' ⟨rfl, rfl⟩
        have hcge := grownCap_ge w (zs.length + 1) c (laysI_ren.t 3)
        have hcle := grownCap_le_maxLen w (zs.length + 1) c (laysI_ren.t 3) (by unfold maxLen; omega)
        have hzz : (Value.int .i64 0).cells.size = 1 := rfl
        have hsz : (((ints zs).take i).toArray ++ Builtin.zeroCells (Value.int .i64 0).cells (zs.length + 1 - i) ++ Builtin.zeroCells (Value.int .i64 0).cells (grownCap w (zs.length + 1) c (laysI_ren.t 3) - (zs.length + 1))).size = grownCap w (zs.length + 1) c (laysI_ren.t 3) := by
          rw [Array.size_append, Array.size_append, size_zeroCells, size_zeroCells, hzz, List.size_toArray, List.length_take, hlen]
          omega
        obtain ⟨cur1, e1, e2, e3⟩ := heap_setCells_same [Value.int .i64 x] (w.alloc (.cells (((ints zs).take i).toArray ++ Builtin.zeroCells (Value.int .i64 0).cells (zs.length + 1 - i) ++ Builtin.zeroCells (Value.int .i64 0).cells (grownCap w (zs.length + 1) c (laysI_ren.t 3) - (zs.length + 1))) (laysI_ren.t 3))).drew w.heap.size i _ _ (heap_alloc_new w _)
        obtain ⟨cur', f1, f2, f3⟩ := heap_setCells_same ((ints zs).drop i) (((w.alloc (.cells (((ints zs).take i).toArray ++ Builtin.zeroCells (Value.int .i64 0).cells (zs.length + 1 - i) ++ Builtin.zeroCells (Value.int .i64 0).cells (grownCap w (zs.length + 1) c (laysI_ren.t 3) - (zs.length + 1))) (laysI_ren.t 3))).drew.setCells w.heap.size i [Value.int .i64 x]).drew) w.heap.size (i + 1) cur1 _ e1
        have hbel := below_setCells (Nat.le_refl w.heap.size) ((ints zs).drop i) w _ (i + 1) (below_setCells (Nat.le_refl w.heap.size) [Value.int .i64 x] w _ i (((Below.refl w.heap.size w).alloc (Nat.le_refl _) (.cells (((ints zs).take i).toArray ++ Builtin.zeroCells (Value.int .i64 0).cells (zs.length + 1 - i) ++ Builtin.zeroCells (Value.int .i64 0).cells (grownCap w (zs.length + 1) c (laysI_ren.t 3) - (zs.length + 1))) (laysI_ren.t 3))).drew)).drew
        have hlt := (Array.getElem?_eq_some_iff.1 f1).1
        refine ⟨_, _, rfl, .inr ⟨w.heap.size, cur', rfl, hlo, hlt, f1, ?_, hcle, f2.trans (e2.trans hsz), ?_⟩, Only.of_below hbel⟩
        · rw [ints_length, insAt_length _ _ _ hi']; exact hcge
        · rw [ints_length, insAt_length _ _ _ hi', f3, e3, ← ints_insAt]
          refine ins_grow _ (ints zs) (.int .i64 x) i zs.length hlen hi' ?_ ?_
          · have h9 := hsz
            rw [← Array.length_toList] at h9
            rw [h9]; exact hcge
          · rw [Array.toList_append, Array.toList_append, List.append_assoc]
            exact List.take_left' (by simp [hlen]; omega)
end Go.Proofs.Ytkdfjkocfejfjaa
