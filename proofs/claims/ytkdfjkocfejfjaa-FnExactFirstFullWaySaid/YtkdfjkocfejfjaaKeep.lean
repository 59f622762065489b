/- One list grows in its place or anew, nothing else turns (KeepBut); append where the old list is used on. -/
import Derived.Test.YtkdfjkocfejfjaaSets
import Derived.ArgAppend
namespace Go.Proofs.Ytkdfjkocfejfjaa
open Go.RowKit

/-- Nothing that was there has turned but the block at A. -/
structure KeepBut (A : Option Addr) (w w' : World) : Prop where
  os : w'.os = w.os
  tape : w'.tape = w.tape
  output : w'.output = w.output
  size : w.heap.size ≤ w'.heap.size
  block : ∀ g, g < w.heap.size → A ≠ some ⟨g, 0, none⟩ → w'.heap[g]? = w.heap[g]?
section
variable {A A' : Option Addr} {a b c w w' : World}
theorem KeepBut.refl (A : Option Addr) (w : World) : KeepBut A w w := ⟨rfl, rfl, rfl, Nat.le_refl _, fun _ _ _ => rfl⟩
theorem KeepBut.trans (h : KeepBut A a b) (k : KeepBut A b c) : KeepBut A a c :=
  ⟨k.os.trans h.os, k.tape.trans h.tape, k.output.trans h.output, Nat.le_trans h.size k.size, fun g hg r => (k.block g (Nat.lt_of_lt_of_le hg h.size) r).trans (h.block g hg r)⟩
theorem KeepBut.of_below (h : Below w.heap.size w w') : KeepBut A w w' := ⟨h.os, h.tape, h.output, h.size, fun g hg _ => h.block g hg⟩
theorem KeepBut.fresh (h : KeepBut A' b c) (k : KeepBut A a b) (hf : ∃ q, A' = some ⟨q, 0, none⟩ ∧ a.heap.size ≤ q) : KeepBut A a c :=
  ⟨h.os.trans k.os, h.tape.trans k.tape, h.output.trans k.output, Nat.le_trans k.size h.size, fun g hg r => (h.block g (Nat.lt_of_lt_of_le hg k.size) (by
    obtain ⟨q, e, hq⟩ := hf
    rw [e]
    intro e2
    simp only [Option.some.injEq, Addr.mk.injEq, and_true] at e2
    omega)).trans (k.block g hg r)⟩
theorem KeepBut.none (h : KeepBut none w w') : Below w.heap.size w w' := ⟨h.os, h.tape, h.output, h.size, fun g hg => h.block g hg (by simp)⟩
end
theorem own_head {w : World} {lo hi : Nat} {t : TypeId} {A : Option Addr} {c : Nat} {xs ys : List Value} (h : Own w lo hi t A c (xs ++ ys)) : Own w lo hi t A c xs := by
  rcases h with ⟨h1, h2, h3⟩ | ⟨g, cur, e, a, b, hh, h1, h2, h3, h4⟩
  · rw [List.append_eq_nil_iff] at h2
    exact .inl ⟨h1, h2.1, h3⟩
  · refine .inr ⟨g, cur, e, a, b, hh, by simp at h1; omega, h2, h3, ?_⟩
    have := congrArg (List.take xs.length) h4
    rw [List.take_take, List.take_append_of_le_length (Nat.le_refl _), List.take_length, Nat.min_eq_left (by simp)] at this
    exact this

/-- append(list, x) where the list is used on behind it. -/
theorem wpList_pushKeep {ops : Array Oper} {rest : List Oper} {o : Oper} {a : Act} {Q : Exit → Act → World → Prop} {w : World} (hgd : o.guard = none) (s x : Operand)
    (ho : o.op = .call { callee := .builtin .append, args := #[s, x], argTypes := #[22, 22] })
    (lo hi : Nat) (A : Option Addr) (c n : Nat) (zs : List Int) (z : Int) (g : Nat) (hs : a.eval s = .slice A n c) (hx : a.eval x = .slice (some ⟨g, 0, none⟩) 1 1)
    (hn : n = zs.length) (hown : Own w lo hi 3 A c (ints zs)) (hcell : w.cell? ⟨g, 0, none⟩ = some (.int .i64 z)) (hl : n ≤ 1099511627776) (hlo : lo ≤ w.heap.size) (hhi : hi ≤ w.heap.size)
    (h : ∀ A' c' w', Own w' lo w'.heap.size 3 A' c' (ints (zs ++ [z])) → Own w' lo hi 3 A c (ints zs) → KeepBut A w w' → ((A' = A ∧ c' = c) ∨ ∃ q, A' = some ⟨q, 0, none⟩ ∧ w.heap.size ≤ q) →
      wpList Try.prog ops Q rest (a.put o.dst (.slice A' (n + 1) c')) w') : wpList Try.prog ops Q (o :: rest) a w := by
  subst hn
  obtain ⟨i0, hi0, hz0, hz1, hz2⟩ := info_parts int_info
  have hcap := hown.cap
  rw [ints_length] at hcap
  have hgrown : ∀ v' w', w'.ownsRow w.heap.size 3 1 v' (zs.length + 1) (ints zs ++ [Value.int .i64 z]) → w.grownBy w' none → wpList Try.prog ops Q rest (a.put o.dst v') w' := by
    intro v' w' h1 h2
    obtain ⟨A', c', rfl, hlen, ho'⟩ := own_of_ownsRow h1
    have e : (ints zs ++ [Value.int .i64 z]).length = zs.length + 1 := by simp [ints]
    rw [e]
    have hfr : ∃ q, A' = some ⟨q, 0, none⟩ ∧ w.heap.size ≤ q := by
      rcases ho' with ⟨_, h5, _⟩ | ⟨q, cur, e5, h6, _⟩
      · simp at h5
      · exact ⟨q, e5, h6⟩
    refine h A' c' w' (by simpa [ints] using ho'.mono hlo (Nat.le_refl _)) (hown.keep fun b h3 h4 => h2.block b (by omega) (by simp)) ⟨h2.os, h2.tape, h2.output, h2.size, fun b hb _ => h2.block b hb (by simp)⟩ (.inr hfr)
  by_cases hr : zs.length + 1 ≤ c
  · rcases hown with ⟨h1, h2, h3⟩ | ⟨b, cur, rfl, h5, h6, hh, h7, h8, h9, h10⟩
    · omega
    · have hin : ∀ j u, (ints zs)[j]? = some u → w.cell? ⟨b, 0 + j, none⟩ = some u := by
        intro j u hu
        have hj : j < (ints zs).length := (List.getElem?_eq_some_iff.1 hu).1
        rw [cell_of_row w b (0 + j) cur 3 (0, 0) hh, Nat.zero_add, ← hu, ← h10, List.getElem?_take, if_pos hj]
        simp
      refine wpList_append_arg w hgd s x _ ho 3 i0 _ 1 8 Try.underlying22 hi0 hz0 hz1 hz2 rfl (by decide) b 0 zs.length c (ints zs) hs (by simp [ints]) hin ⟨g, 0, none⟩ 1 1 [.int .i64 z] hx rfl ?_ ?_ ?_ ?_ ?_ ?_ ?_
      · intro j u hu
        match j, hu with
        | 0, hu =>
          simp at hu
          subst hu
          exact hcell
        | j + 1, hu => simp at hu
      · intro u hu
        simp at hu
        subst hu
        rfl
      · intro _ j hj
        have hj0 : j = 0 := by simpa using hj
        subst hj0
        constructor
        · rw [cell_of_row w b _ cur 3 (0, 0) hh, Array.getElem?_eq_getElem (by omega)]
          rfl
        · simp [World.frozen?, hh]
      · unfold maxLen; omega
      · omega
      · intro _
        have e0 : w.setCells b (0 + zs.length * 1) [.int .i64 z] = w.setCell ⟨b, zs.length, none⟩ (.int .i64 z) := by
          rw [Nat.zero_add, Nat.mul_one]
          rfl
        rw [e0]
        have hh' := heap_setCell_same w b zs.length cur 3 (.int .i64 z) hh
        have hlen : (ints zs).length = zs.length := ints_length zs
        refine h _ c _ (.inr ⟨b, cur.setIfInBounds zs.length (.int .i64 z), rfl, h5, by simp; omega, hh', by simp [ints]; omega, h8, by simpa using h9, ?_⟩) (.inr ⟨b, cur.setIfInBounds zs.length (.int .i64 z), rfl, h5, h6, hh', h7, h8, by simpa using h9, ?_⟩) ⟨rfl, rfl, rfl, by simp, fun q hq hne => Below.heap_setCell w _ _ q (by intro e; subst e; exact hne rfl)⟩ (.inl ⟨rfl, rfl⟩)
        · rw [Array.toList_setIfInBounds]
          have e1 : ints (zs ++ [z]) = ints zs ++ [.int .i64 z] := by simp [ints]
          rw [e1, List.length_append, List.length_singleton, hlen]
          rw [hlen] at h10
          have hcl : zs.length < cur.toList.length := by simp; omega
          rw [List.take_succ_eq_append_getElem (by simpa using hcl), List.take_set_of_le (Nat.le_refl _), h10]
          simp
        · rw [Array.toList_setIfInBounds, hlen, List.take_set_of_le (Nat.le_refl _)]
          rwa [hlen] at h10
      · intro hlt
        omega
  · have hfull : c = zs.length := by omega
    refine wpList_append_grows w hgd s x _ ho 3 i0 _ 1 8 Try.underlying22 hi0 hz0 hz1 hz2 rfl (by decide) A zs.length c (ints zs) hs (fun e => ?_) (by simp [ints]) (fun b e j u hu => ?_) ⟨g, 0, none⟩ 1 1 [.int .i64 z] hx rfl ?_ ?_ (by omega) (by unfold maxLen; omega) (by omega) hgrown
    · rcases hown with ⟨_, h2, h3⟩ | ⟨b, cur, e2, _⟩
      · have : zs = [] := by simpa [ints] using h2
        subst this
        exact ⟨rfl, h3⟩
      · rw [e] at e2; cases e2
    · have hrow := hown.row
      obtain ⟨b2, off2, e2, _, hc2⟩ := hrow (by have := (List.getElem?_eq_some_iff.1 hu).1; omega)
      rw [e] at e2
      simp only [Option.some.injEq] at e2
      subst e2
      have e3 : (⟨b2, off2, none⟩ : Addr).add j = ⟨b2, off2 + j, none⟩ := by unfold Addr.add; split <;> simp_all
      rw [e3]
      exact hc2 j u hu
    · intro j u hu
      match j, hu with
      | 0, hu =>
        simp at hu
        subst hu
        exact hcell
      | j + 1, hu => simp at hu
    · intro u hu
      simp at hu
      subst hu
      rfl
end Go.Proofs.Ytkdfjkocfejfjaa
