/- Results that are a tour and a word; an append in a region that draws; an append of a whole slice. -/
import Derived.Test.YtaocjjocncoahaaDoorTri
import Derived.Test.YtaocjjocncoahaaDoorPush
import Derived.WalkSpells
namespace Go.Proofs.YtaocjjocncoahaaDoor
open Go.RowKit

/-- The call has laid a new tour, a word beside it, and turned nothing that was there. -/
def NewTourOk (w : World) (sz : Int) (zs : List Int) (b : Bool) (e : Ending) (w' : World) : Prop :=
  ∃ A c, e = .returned (.tuple #[.agg #[.int .i64 sz, .slice A zs.length c], .bool b]) ∧ Own w' w.heap.size w'.heap.size 3 A c (ints zs) ∧ Below w.heap.size w w'
theorem newTourOk_none {w w' : World} {sz : Int} {zs : List Int} {b : Bool} (e1 : sz = 0) (e2 : zs = []) (e3 : b = false) (h : Below w.heap.size w w') : NewTourOk w sz zs b (.returned (.tuple #[.agg #[.int .i64 0, .slice none 0 0], .bool false])) w' := by
  subst e1 e2 e3
  exact ⟨none, 0, rfl, Own.nil _ _ _ _, h⟩

/-- A struct argument and a struct result have been laid, then a call: both stand. -/
theorem res2 {w w1 : World} {v0 v1 u0 u1 : Value} {t t' : TypeId} (hb : Below ((w.alloc (.cells #[v0, v1] t)).alloc (.cells #[u0, u1] t')).heap.size ((w.alloc (.cells #[v0, v1] t)).alloc (.cells #[u0, u1] t')) w1) :
    (w1.cell? ⟨w.heap.size, 0, none⟩ = some v0 ∧ w1.cell? ⟨w.heap.size, 1, none⟩ = some v1) ∧ (w1.cell? ⟨w.heap.size + 1, 0, none⟩ = some u0 ∧ w1.cell? ⟨w.heap.size + 1, 1, none⟩ = some u1) ∧
      (w1.frozen? ⟨w.heap.size + 1, 0, none⟩ = false ∧ w1.frozen? ⟨w.heap.size + 1, 1, none⟩ = false) ∧ Below w.heap.size w w1 ∧ w.heap.size + 2 ≤ w1.heap.size :=
  ⟨⟨(hb.cell (p := ⟨w.heap.size, 0, none⟩) (by simp; omega)).trans (by go_simp), (hb.cell (p := ⟨w.heap.size, 1, none⟩) (by simp; omega)).trans (by go_simp)⟩,
    ⟨(hb.cell (p := ⟨w.heap.size + 1, 0, none⟩) (by simp)).trans (by go_simp), (hb.cell (p := ⟨w.heap.size + 1, 1, none⟩) (by simp)).trans (by go_simp)⟩,
    ⟨(hb.frozen (p := ⟨w.heap.size + 1, 0, none⟩) (by simp)).trans (by go_simp), (hb.frozen (p := ⟨w.heap.size + 1, 1, none⟩) (by simp)).trans (by go_simp)⟩,
    Below.trans (by go_grown) (hb.mono (by simp; omega)), by have := hb.size; simpa using this⟩
/-- The result's cells over a further call. -/
theorem res_keep {w1 w2 : World} {b : Nat} {u0 u1 : Value} (j0 : w1.cell? ⟨b, 0, none⟩ = some u0) (j1 : w1.cell? ⟨b, 1, none⟩ = some u1) (f0 : w1.frozen? ⟨b, 0, none⟩ = false) (f1 : w1.frozen? ⟨b, 1, none⟩ = false) (hb : Below w1.heap.size w1 w2) :
    (w2.cell? ⟨b, 0, none⟩ = some u0 ∧ w2.cell? ⟨b, 1, none⟩ = some u1) ∧ (w2.frozen? ⟨b, 0, none⟩ = false ∧ w2.frozen? ⟨b, 1, none⟩ = false) := by
  have hl := World.block_lt_of_cell? w1 _ j0
  exact ⟨⟨(hb.cell (p := ⟨b, 0, none⟩) hl).trans j0, (hb.cell (p := ⟨b, 1, none⟩) hl).trans j1⟩, ⟨(hb.frozen (p := ⟨b, 0, none⟩) hl).trans f0, (hb.frozen (p := ⟨b, 1, none⟩) hl).trans f1⟩⟩
/-- A call from behind a draw. -/
theorem below_undrew {w w' : World} (h : Below w.drew.heap.size w.drew w') : Below w.heap.size w w' := ⟨h.os, h.tape, h.output, h.size, h.block⟩

/-- append(out, x) as one step of a region that draws. -/
theorem step_push {ops : Array Oper} {o : Oper} {a : Act} {w : World} {K : Act → World → Prop} {Q : Exit → Act → World → Prop} {E : Prop} (hgd : o.guard = none) (s x : Operand)
    (ho : o.op = .call { callee := .builtin .append, args := #[s, x], argTypes := #[22, 22] })
    (lo hi : Nat) (A : Option Addr) (c n : Nat) (zs : List Int) (z : Int) (g : Nat) (hs : a.eval s = .slice A n c) (hx : a.eval x = .slice (some ⟨g, 0, none⟩) 1 1)
    (hn : n = zs.length) (hown : Own w lo hi 3 A c (ints zs)) (hcell : w.cell? ⟨g, 0, none⟩ = some (.int .i64 z)) (hl : n ≤ 1099511627776) (hlo : lo ≤ w.heap.size)
    (h : ∀ A' c' w', Own w' lo w'.heap.size 3 A' c' (ints (zs ++ [z])) → Only lo hi w w' → K (a.put o.dst (.slice A' (n + 1) c')) w') :
    if Region.wanted o (yielded ops a.tmps) = true then Oper.wp Tryd.prog o a w K Q else E := by
  have hw : Region.wanted o (yielded ops a.tmps) = true := by simp [Region.wanted, hgd]
  rw [if_pos hw]
  subst hn
  obtain ⟨i0, hi0, hz0, hz1, hz2⟩ := info_parts int_info
  have hown' := hown.ownsRow
  rw [ints_length] at hown'
  refine wp_append_own w s x _ ho lo 3 i0 _ 1 8 Tryd.underlying22 hi0 hz0 hz1 hz2 rfl (by decide) _ zs.length (ints zs) hs hown' ⟨g, 0, none⟩ 1 1 [.int .i64 z] hx rfl ?_ ?_ ?_ ?_ hlo ?_
  · intro j u hu
    match j, hu with
    | 0, hu =>
      simp at hu
      subst hu
      exact hcell
    | j + 1, hu => simp at hu
  · intro u hu
    simp at hu
    subst hu
    rfl
  · unfold maxLen; omega
  · omega
  · intro v' w' h1 h2 _
    obtain ⟨A', c', rfl, hlen, ho'⟩ := own_of_ownsRow h1
    have e : (ints zs ++ [Value.int .i64 z]).length = zs.length + 1 := by simp [ints]
    rw [e]
    refine h A' c' w' ?_ (only_of_grown hown h2)
    simpa [ints] using ho'

/-- append(out, list...): a row of one's own, a list that lies somewhere and is not empty. -/
theorem wp_pushAll {o : Oper} {a : Act} {w : World} {K : Act → World → Prop} {Q : Exit → Act → World → Prop} (s x : Operand)
    (ho : o.op = .call { callee := .builtin .append, args := #[s, x], argTypes := #[22, 22] })
    (lo hi B : Nat) (A A2 : Option Addr) (c n m c2 : Nat) (zs ys : List Int) (hs : a.eval s = .slice A n c) (hx : a.eval x = .slice A2 m c2)
    (hn : n = zs.length) (hm : m = ys.length) (hown : Own w lo hi 3 A c (ints zs)) (hrow : Row w B A2 (ints ys)) (h0 : 0 < m) (hl : n + m ≤ 1099511627776) (hlo : lo ≤ w.heap.size)
    (h : ∀ A' c' w', Own w' lo w'.heap.size 3 A' c' (ints (zs ++ ys)) → Only lo hi w w' → K (a.put o.dst (.slice A' (n + m) c')) w') : Oper.wp Tryd.prog o a w K Q := by
  subst hn hm
  obtain ⟨i0, hi0, hz0, hz1, hz2⟩ := info_parts int_info
  have hown' := hown.ownsRow
  rw [ints_length] at hown'
  obtain ⟨b, off, rfl, hb, hc⟩ := hrow (by rw [ints_length]; exact h0)
  refine wp_append_own w s x _ ho lo 3 i0 _ 1 8 Tryd.underlying22 hi0 hz0 hz1 hz2 rfl (by decide) _ zs.length (ints zs) hs hown' ⟨b, off, none⟩ ys.length c2 (ints ys) hx (by simp [ints]) ?_ ?_ ?_ ?_ hlo ?_
  · intro j u hu
    have e : (⟨b, off, none⟩ : Addr).add j = ⟨b, off + j, none⟩ := by unfold Addr.add; split <;> simp_all
    rw [e]
    exact hc j u hu
  · intro u hu
    unfold ints at hu
    rw [List.mem_map] at hu
    obtain ⟨z, _, rfl⟩ := hu
    rfl
  · unfold maxLen; omega
  · omega
  · intro v' w' h1 h2 _
    obtain ⟨A', c', rfl, hlen, ho'⟩ := own_of_ownsRow h1
    have e : (ints zs ++ ints ys).length = zs.length + ys.length := by simp [ints]
    rw [e]
    refine h A' c' w' ?_ (only_of_grown hown h2)
    simpa [ints] using ho'
theorem step_pushAll {ops : Array Oper} {o : Oper} {a : Act} {w : World} {K : Act → World → Prop} {Q : Exit → Act → World → Prop} {E : Prop} (hgd : o.guard = none) (s x : Operand)
    (ho : o.op = .call { callee := .builtin .append, args := #[s, x], argTypes := #[22, 22] })
    (lo hi B : Nat) (A A2 : Option Addr) (c n m c2 : Nat) (zs ys : List Int) (hs : a.eval s = .slice A n c) (hx : a.eval x = .slice A2 m c2)
    (hn : n = zs.length) (hm : m = ys.length) (hown : Own w lo hi 3 A c (ints zs)) (hrow : Row w B A2 (ints ys)) (h0 : 0 < m) (hl : n + m ≤ 1099511627776) (hlo : lo ≤ w.heap.size)
    (h : ∀ A' c' w', Own w' lo w'.heap.size 3 A' c' (ints (zs ++ ys)) → Only lo hi w w' → K (a.put o.dst (.slice A' (n + m) c')) w') :
    if Region.wanted o (yielded ops a.tmps) = true then Oper.wp Tryd.prog o a w K Q else E := by
  have hw : Region.wanted o (yielded ops a.tmps) = true := by simp [Region.wanted, hgd]
  rw [if_pos hw]
  exact wp_pushAll s x ho lo hi B A A2 c n m c2 zs ys hs hx hn hm hown hrow h0 hl hlo h
theorem wpList_pushAll {ops : Array Oper} {rest : List Oper} {o : Oper} {a : Act} {Q : Exit → Act → World → Prop} {w : World} (hgd : o.guard = none) (s x : Operand)
    (ho : o.op = .call { callee := .builtin .append, args := #[s, x], argTypes := #[22, 22] })
    (lo hi B : Nat) (A A2 : Option Addr) (c n m c2 : Nat) (zs ys : List Int) (hs : a.eval s = .slice A n c) (hx : a.eval x = .slice A2 m c2)
    (hn : n = zs.length) (hm : m = ys.length) (hown : Own w lo hi 3 A c (ints zs)) (hrow : Row w B A2 (ints ys)) (h0 : 0 < m) (hl : n + m ≤ 1099511627776) (hlo : lo ≤ w.heap.size)
    (h : ∀ A' c' w', Own w' lo w'.heap.size 3 A' c' (ints (zs ++ ys)) → Only lo hi w w' → wpList Tryd.prog ops Q rest (a.put o.dst (.slice A' (n + m) c')) w') : wpList Tryd.prog ops Q (o :: rest) a w :=
  wpList_plain hgd fun _ hK => wp_pushAll s x ho lo hi B A A2 c n m c2 zs ys hs hx hn hm hown hrow h0 hl hlo fun A' c' w' h1 h2 => hK _ _ (h A' c' w' h1 h2)

theorem clone_any (A : Option Addr) (c : Nat) (zs : List Int) (w : World) (h : Row w w.heap.size A (ints zs)) (h0 : 0 < zs.length) (hl : zs.length ≤ 549755813888) :
    Calls Tryd.prog 62 #[.slice A zs.length c] w (NewInts w 3 zs) := by
  obtain ⟨b, off, rfl, hbB, _⟩ := h.int h0
  have hnil := fun (W : World) => Lib.run_eql_slice_nil (P := Tryd.prog) W 22 3 (some ⟨b, off, none⟩) zs.length c 0 0 Tryd.underlying22
  go_enter Tryd.func62, Tryd.ntmps62
  go_wp2_with (at_builtin; refine wpList_pushAll rfl (.tmp 5) (.tmp 6) rfl w.heap.size (w.heap.size + 1) (w.heap.size + 1) (some ⟨w.heap.size, 0, none⟩) (some ⟨b, off, none⟩) 0 0 zs.length c [] zs rfl rfl rfl rfl ?c0 ?c1 h0 (by omega) (by simp) ?_)
  case c0 => exact Own.made w w.heap.size 3 #[] (Nat.le_refl _) (by simp)
  case c1 => exact (h.alloc (Nat.le_refl _) _).mono (by simp)
  intro A' c' w1 ho hg
  have HO := Lib.hid ho
  clear ho
  go_wp2
  go_ret
  exact ⟨A', c', ret_slice (by simp), by simpa using HO.out, below_only ((Below.refl _ _).alloc (Nat.le_refl _) _) hg (Nat.le_refl _) (by simp)⟩
end Go.Proofs.YtaocjjocncoahaaDoor
