/- append(out, list...), the list nil, empty or not; a row of one's own that is cut. -/
import Derived.Test.YtaocjjocncoahaaTRes
namespace Go.Proofs.Ytaocjjocncoahaa
open Go.RowKit

theorem run_append_nothing {P : Program} (w : World) (t ty e : TypeId) (i : TypeInfo) (ht : P.underlying t = some (.slice e)) (hi : P.info? e = some i) {lo hi' : Nat} {t' : TypeId} {A : Option Addr} {n c : Nat} {vs : List Value}
    (hown : Own w lo hi' t' A c vs) (hn : n = vs.length) (c2 : Nat) : (Builtin.append_ #[t, t] ty #[.slice A n c, .slice none 0 c2]).run P w = .ok (.slice A n c) w := by
  have hc := hown.cap.1
  rw [← hn] at hc
  rcases hown with ⟨rfl, rfl, rfl⟩ | ⟨g, cur, rfl, _, _, _, _⟩
  · subst hn
    simp [Builtin.append_, run_underlying ht, sizeOf, typeInfo, hi, Builtin.lenOf, Builtin.firstCells]
  · simp [Builtin.append_, run_underlying ht, sizeOf, typeInfo, hi, Builtin.lenOf, Builtin.firstCells, hc, storeCells]
theorem wp_pushAny {o : Oper} {a : Act} {w : World} {K : Act → World → Prop} {Q : Exit → Act → World → Prop} (s x : Operand)
    (ho : o.op = .call { callee := .builtin .append, args := #[s, x], argTypes := #[24, 24] })
    (lo hi B : Nat) (A A2 : Option Addr) (c n m c2 r : Nat) (zs ys : List Int) (hs : a.eval s = .slice A n c) (hx : a.eval x = .slice A2 m c2)
    (hn : n = zs.length) (hm : m = ys.length) (hr : r = n + m) (hown : Own w lo hi 3 A c (ints zs)) (hrow : Row w B A2 (ints ys)) (hl : n + m ≤ 1099511627776) (hlo : lo ≤ w.heap.size) (hhi : hi ≤ w.heap.size)
    (h : ∀ A' c' w', Own w' lo w'.heap.size 3 A' c' (ints (zs ++ ys)) → Only lo hi w w' → K (a.put o.dst (.slice A' r c')) w') : Oper.wp Try.prog o a w K Q := by
  subst hn hm hr
  obtain ⟨i0, hi0, hz0, hz1, hz2⟩ := info_parts int_info
  have hown' := hown.ownsRow
  rw [ints_length] at hown'
  cases A2 with
  | none =>
    have hys : ys = [] := by
      rcases Nat.eq_zero_or_pos ys.length with h0 | h0
      · exact List.eq_nil_of_length_eq_zero h0
      · obtain ⟨b, off, e, _⟩ := hrow (by rw [ints_length]; exact h0)
        cases e
    subst hys
    have hrun := run_append_nothing (P := Try.prog) w 24 o.type 3 i0 Try.underlying24 hi0 hown (n := zs.length) (by rw [ints_length]) c2
    unfold Oper.wp execOp
    simp only [List.length_nil] at hx
    simp only [ho, resolve, invoke, builtin, Sem.run_bind, Sem.run_pure, Result.andThen_ok, List.map_toArray, List.map_cons, List.map_nil, hs, hx, hrun]
    refine h A c w ?_ (Only.refl _ _ _)
    rw [List.append_nil]
    exact hown.mono (Nat.le_refl _) hhi
  | some ad =>
    have hcells : ∀ j u, (ints ys)[j]? = some u → w.cell? (ad.add j) = some u := by
      intro j u hu
      obtain ⟨b, off, e, _, hc⟩ := hrow (by have := (List.getElem?_eq_some_iff.1 hu).1; omega)
      obtain rfl := Option.some.inj e
      have e : (⟨b, off, none⟩ : Addr).add j = ⟨b, off + j, none⟩ := by unfold Addr.add; split <;> simp_all
      rw [e]
      exact hc j u hu
    refine wp_append_own w s x _ ho lo 3 i0 _ 1 8 Try.underlying24 hi0 hz0 hz1 hz2 rfl (by decide) _ zs.length (ints zs) hs hown' ad ys.length c2 (ints ys) hx (by simp [ints]) hcells ?_ ?_ ?_ hlo ?_
    · intro u hu
      unfold ints at hu
      rw [List.mem_map] at hu
      obtain ⟨z, _, rfl⟩ := hu
      rfl
    · unfold maxLen; omega
    · omega
    · intro v' w' h1 h2 _
      obtain ⟨A', c', rfl, hlen, ho'⟩ := own_of_ownsRow h1
      have e : (ints zs ++ ints ys).length = zs.length + ys.length := by simp [ints]
      rw [e]
      refine h A' c' w' ?_ (only_of_grown hown h2)
      simpa [ints] using ho'
theorem wpList_pushAny {ops : Array Oper} {rest : List Oper} {o : Oper} {a : Act} {Q : Exit → Act → World → Prop} {w : World} (hgd : o.guard = none) (s x : Operand)
    (ho : o.op = .call { callee := .builtin .append, args := #[s, x], argTypes := #[24, 24] })
    (lo hi B : Nat) (A A2 : Option Addr) (c n m c2 r : Nat) (zs ys : List Int) (hs : a.eval s = .slice A n c) (hx : a.eval x = .slice A2 m c2)
    (hn : n = zs.length) (hm : m = ys.length) (hr : r = n + m) (hown : Own w lo hi 3 A c (ints zs)) (hrow : Row w B A2 (ints ys)) (hl : n + m ≤ 1099511627776) (hlo : lo ≤ w.heap.size) (hhi : hi ≤ w.heap.size)
    (h : ∀ A' c' w', Own w' lo w'.heap.size 3 A' c' (ints (zs ++ ys)) → Only lo hi w w' → wpList Try.prog ops Q rest (a.put o.dst (.slice A' r c')) w') : wpList Try.prog ops Q (o :: rest) a w :=
  wpList_plain hgd fun _ hK => wp_pushAny s x ho lo hi B A A2 c n m c2 r zs ys hs hx hn hm hr hown hrow hl hlo hhi fun A' c' w' h1 h2 => hK _ _ (h A' c' w' h1 h2)
theorem step_pushAny {ops : Array Oper} {o : Oper} {a : Act} {w : World} {K : Act → World → Prop} {Q : Exit → Act → World → Prop} {E : Prop} (hgd : o.guard = none) (s x : Operand)
    (ho : o.op = .call { callee := .builtin .append, args := #[s, x], argTypes := #[24, 24] })
    (lo hi B : Nat) (A A2 : Option Addr) (c n m c2 r : Nat) (zs ys : List Int) (hs : a.eval s = .slice A n c) (hx : a.eval x = .slice A2 m c2)
    (hn : n = zs.length) (hm : m = ys.length) (hr : r = n + m) (hown : Own w lo hi 3 A c (ints zs)) (hrow : Row w B A2 (ints ys)) (hl : n + m ≤ 1099511627776) (hlo : lo ≤ w.heap.size) (hhi : hi ≤ w.heap.size)
    (h : ∀ A' c' w', Own w' lo w'.heap.size 3 A' c' (ints (zs ++ ys)) → Only lo hi w w' → K (a.put o.dst (.slice A' r c')) w') :
    if Region.wanted o (yielded ops a.tmps) = true then Oper.wp Try.prog o a w K Q else E := by
  have hw : Region.wanted o (yielded ops a.tmps) = true := by simp [Region.wanted, hgd]
  rw [if_pos hw]
  exact wp_pushAny s x ho lo hi B A A2 c n m c2 r zs ys hs hx hn hm hr hown hrow hl hlo hhi h
/-- The rest of a row from k on, at whatever address where it is empty. -/
theorem Row.dropAt {w : World} {B : Nat} {b off k : Nat} {zs : List Int} (h : Row w B (some ⟨b, off, none⟩) (ints zs)) : Row w B (some ⟨b, off + k, none⟩) (ints (zs.drop k)) := fun hn => by
  have hk : k < zs.length := by rw [ints_length, List.length_drop] at hn; omega
  obtain ⟨b', o', e, hb, hc⟩ := h (by rw [ints_length]; omega)
  simp only [Option.some.injEq, Addr.mk.injEq, and_true] at e
  obtain ⟨rfl, rfl⟩ := e
  refine ⟨b, off + k, rfl, hb, fun i u hu => ?_⟩
  have : w.cell? ⟨b, off + (k + i), none⟩ = some u := hc (k + i) u (by
    rw [← hu]
    simp [ints])
  rwa [Nat.add_assoc]
theorem Row.empty {w : World} {B : Nat} (A : Option Addr) {zs : List Int} (h : zs = []) : Row w B A (ints zs) := by subst h; exact Row.nil _ _ _
end Go.Proofs.Ytaocjjocncoahaa
