/- Slices of tours: what lies in them, appends at any offset. -/
import Derived.Test.YtaocjjocncoahaaDoorMem
import Derived.Test.YtaocjjocncoahaaDoorRows
import Derived.ArgAppend
import Derived.RegionTactic
import Derived.BigQuiet
import Derived.Outline
import Derived.Handy
import Derived.WalkLawsBesides
import Derived.WalkSpells
namespace Go.Proofs.YtaocjjocncoahaaDoor
open Go.RowKit

/-- The block g holds, from o on, tours of n players: their rows' headers. -/
def OwnQ (w : World) (g o c n : Nat) (hs : List (Option Addr × Nat)) : Prop :=
  ∃ cur, w.heap[g]? = some (.cells cur 24 (0, 0)) ∧ o + 2 * c ≤ cur.size ∧ hs.length ≤ c ∧ c ≤ maxLen ∧ ∀ (j : Nat) (h : Option Addr × Nat), hs[j]? = some h → cur[o + 2 * j]? = some (.int .i64 (n : Int)) ∧ cur[o + 2 * j + 1]? = some (.slice h.1 n h.2)
section
variable {w w' : World} {g o c n : Nat} {hs : List (Option Addr × Nat)}
theorem OwnQ.keep (h : OwnQ w g o c n hs) (hk : w'.heap[g]? = w.heap[g]?) : OwnQ w' g o c n hs := by
  obtain ⟨cur, a, b⟩ := h
  exact ⟨cur, hk.trans a, b⟩
theorem OwnQ.lt (h : OwnQ w g o c n hs) : g < w.heap.size := by
  obtain ⟨cur, a, b⟩ := h
  exact (Array.getElem?_eq_some_iff.1 a).1
theorem OwnQ.cap (h : OwnQ w g o c n hs) : hs.length ≤ c ∧ c ≤ maxLen := by
  obtain ⟨cur, a, b, d, e, _⟩ := h
  exact ⟨d, e⟩
theorem OwnQ.below (h : OwnQ w g o c n hs) (hb : Below w.heap.size w w') : OwnQ w' g o c n hs := h.keep (hb.block g h.lt)
theorem OwnQ.drew (h : OwnQ w g o c n hs) : OwnQ w.drew g o c n hs := h
theorem OwnQ.setCell (h : OwnQ w g o c n hs) {p : Addr} (hp : p.block ≠ g) (u : Value) : OwnQ (w.setCell p u) g o c n hs := h.keep (Below.heap_setCell w p u g (fun e => hp e.symm))
theorem OwnQ.at_ (h : OwnQ w g o c n hs) {j : Nat} (hj : j < hs.length) :
    w.cell? ⟨g, o + j * 2, none⟩ = some (.int .i64 (n : Int)) ∧ w.cell? ⟨g, o + j * 2 + 1, none⟩ = some (.slice hs[j].1 n hs[j].2) := by
  rw [Nat.mul_comm j 2]
  obtain ⟨cur, a, b, d, e, f⟩ := h
  obtain ⟨h1, h2⟩ := f j hs[j] (List.getElem?_eq_getElem hj)
  constructor
  · simp [World.cell?, a, h1]
  · simp [World.cell?, a, h2]
theorem OwnQ.tail {x : Option Addr × Nat} (h : OwnQ w g o (c + 1) n (x :: hs)) : OwnQ w g (o + 2) c n hs := by
  obtain ⟨cur, a, b, d, e, f⟩ := h
  refine ⟨cur, a, by omega, by simpa using d, by omega, fun j h hj => ?_⟩
  have := f (j + 1) h (by simpa using hj)
  rw [show o + 2 + 2 * j = o + 2 * (j + 1) by omega]
  exact this
theorem OwnQ.nilAt (h : OwnQ w g o c n hs) : OwnQ w g o 0 n [] := by
  obtain ⟨cur, a, b, d, e, f⟩ := h
  exact ⟨cur, a, by omega, by simp, by omega, fun j h hj => by simp at hj⟩
end
theorem tour_info : (Tryd.prog.info? 24).map (fun i => (i.zero, i.size, i.bytes)) = some (some (.agg #[.int .i64 0, .slice none 0 0]), 2, 32) := by kernel_rfl
def qv (n : Nat) (hs : List (Option Addr × Nat)) : List Value := hs.flatMap fun h => [.int .i64 (n : Int), .slice h.1 n h.2]
theorem qv_length (n : Nat) (hs : List (Option Addr × Nat)) : (qv n hs).length = hs.length * 2 := by
  unfold qv
  induction hs with
  | nil => rfl
  | cons x hs ih => rw [List.flatMap_cons, List.length_append, ih]; simp; omega
theorem qv_at (n : Nat) : ∀ (hs : List (Option Addr × Nat)) (j : Nat) (h : Option Addr × Nat), hs[j]? = some h → (qv n hs)[2 * j]? = some (.int .i64 (n : Int)) ∧ (qv n hs)[2 * j + 1]? = some (.slice h.1 n h.2)
  | [], j, h, hj => by simp at hj
  | x :: hs, 0, h, hj => by
    simp at hj; subst hj
    exact ⟨rfl, rfl⟩
  | x :: hs, j + 1, h, hj => by
    have := qv_at n hs j h (by simpa using hj)
    unfold qv at this ⊢
    rw [List.flatMap_cons]
    rw [show 2 * (j + 1) = 2 * j + 2 by omega]
    exact this
theorem qv_in (n : Nat) : ∀ (hs : List (Option Addr × Nat)) (k : Nat) (u : Value), (qv n hs)[k]? = some u → ∃ j h, hs[j]? = some h ∧ ((k = 2 * j ∧ u = .int .i64 (n : Int)) ∨ (k = 2 * j + 1 ∧ u = .slice h.1 n h.2))
  | [], k, u, hk => by simp [qv] at hk
  | x :: hs, 0, u, hk => by
    have : u = .int .i64 (n : Int) := by simpa [qv] using hk.symm
    exact ⟨0, x, rfl, .inl ⟨rfl, this⟩⟩
  | x :: hs, 1, u, hk => by
    have : u = .slice x.1 n x.2 := by simpa [qv] using hk.symm
    exact ⟨0, x, rfl, .inr ⟨rfl, this⟩⟩
  | x :: hs, k + 2, u, hk => by
    have hk2 : (qv n hs)[k]? = some u := by
      unfold qv at hk ⊢
      rw [List.flatMap_cons] at hk
      exact hk
    obtain ⟨j, h, h1, h2⟩ := qv_in n hs k u hk2
    refine ⟨j + 1, h, by simpa using h1, ?_⟩
    rcases h2 with ⟨rfl, e⟩ | ⟨rfl, e⟩
    · exact .inl ⟨by omega, e⟩
    · exact .inr ⟨by omega, e⟩
theorem ownQ_of {w : World} {lo n m : Nat} {hs : List (Option Addr × Nat)} {v : Value} (h : w.ownsRow lo 24 2 v m (qv n hs)) (h0 : 0 < m) : ∃ g c, v = .slice (some ⟨g, 0, none⟩) m c ∧ lo ≤ g ∧ m = hs.length ∧ OwnQ w g 0 c n hs := by
  obtain ⟨hl, h⟩ := h
  rw [qv_length] at hl
  have hm : m = hs.length := by omega
  rcases h with ⟨_, h⟩ | ⟨g, c, cur, rfl, h1, h2, h3, h4, h5, h6⟩
  · omega
  · refine ⟨g, c, rfl, h1, hm, cur, h2, by omega, by omega, h4, fun j x hj => ?_⟩
    obtain ⟨a, b⟩ := qv_at n hs j x hj
    have hjl : j < hs.length := (List.getElem?_eq_some_iff.1 hj).1
    rw [← h6] at a b
    rw [List.getElem?_take_of_lt (by omega), Array.getElem?_toList] at a b
    exact ⟨by rw [Nat.zero_add]; exact a, by rw [Nat.zero_add]; exact b⟩
theorem heap_set1 {w : World} {g : Nat} {cur : Array Value} {t : TypeId} {fr : Nat × Nat} (h : w.heap[g]? = some (.cells cur t fr)) (k : Nat) (v : Value) : (w.setCell ⟨g, k, none⟩ v).heap[g]? = some (.cells (cur.setIfInBounds k v) t fr) := by
  obtain ⟨hlt, hk'⟩ := Array.getElem?_eq_some_iff.1 h
  show (w.heap.modify g _)[g]? = _
  rw [Array.getElem?_eq_getElem (by rw [Array.size_modify]; exact hlt), Array.getElem_modify_self, hk']
  rfl
/-- append(q, t), q at any offset. -/
theorem wpList_pushQ {ops : Array Oper} {rest : List Oper} {op : Oper} {a : Act} {Q : Exit → Act → World → Prop} {w : World} (hgd : op.guard = none) (s x : Operand)
    (hop : op.op = .call { callee := .builtin .append, args := #[s, x], argTypes := #[55, 55] })
    (g o c n m gx d : Nat) (A : Option Addr) (hs : List (Option Addr × Nat)) (hs' : a.eval s = .slice (some ⟨g, o, none⟩) m c) (hx : a.eval x = .slice (some ⟨gx, 0, none⟩) 1 1)
    (hm : m = hs.length) (hown : OwnQ w g o c n hs) (hc0 : w.cell? ⟨gx, 0, none⟩ = some (.int .i64 (n : Int))) (hc1 : w.cell? ⟨gx, 1, none⟩ = some (.slice A n d)) (hl : m ≤ 1000000)
    (h : ∀ g' o' c' w', OwnQ w' g' o' c' n (hs ++ [(A, d)]) → (g' = g ∨ w.heap.size ≤ g') → Only g (g + 1) w w' → wpList Tryd.prog ops Q rest (a.put op.dst (.slice (some ⟨g', o', none⟩) (m + 1) c')) w') :
    wpList Tryd.prog ops Q (op :: rest) a w := by
  subst hm
  obtain ⟨i0, hi0, hz0, hz1, hz2⟩ := info_parts tour_info
  have hown2 := hown
  obtain ⟨cur, q1, q2, q3, q4, q5⟩ := hown2
  refine wpList_append_arg w hgd s x _ hop 24 i0 _ 2 32 Tryd.underlying55 hi0 hz0 hz1 hz2 rfl (by decide) g o hs.length c (qv n hs) hs' (qv_length n hs) ?_ ⟨gx, 0, none⟩ 1 1 [.int .i64 (n : Int), .slice A n d] hx rfl ?_ ?_ ?_ (by unfold maxLen; omega) (by omega) ?_ ?_
  · intro k u hk
    obtain ⟨j, x, hj, hu⟩ := qv_in n hs k u hk
    obtain ⟨e1, e2⟩ := q5 j x hj
    rcases hu with ⟨rfl, rfl⟩ | ⟨rfl, rfl⟩
    · simp [World.cell?, q1, e1]
    · simp [World.cell?, q1, ← Nat.add_assoc, e2]
  · intro j u hu
    match j, hu with
    | 0, hu => simp at hu; subst hu; exact hc0
    | 1, hu => simp at hu; subst hu; exact hc1
    | j + 2, hu => simp at hu
  · intro u hu
    simp at hu
    rcases hu with rfl | rfl <;> rfl
  · intro hr j hj
    have hin : o + hs.length * 2 + j < cur.size := by simp at hj; omega
    constructor
    · simp [World.cell?, q1, hin]
    · simp [World.frozen?, q1]
  · intro hr
    refine h g o c _ ?_ (.inl rfl) ?_
    · show OwnQ ((w.setCell ⟨g, o + hs.length * 2, none⟩ (.int .i64 (n : Int))).setCell ⟨g, o + hs.length * 2 + 1, none⟩ (.slice A n d)) g o c n (hs ++ [(A, d)])
      have hh : ((w.setCell ⟨g, o + hs.length * 2, none⟩ (.int .i64 (n : Int))).setCell ⟨g, o + hs.length * 2 + 1, none⟩ (.slice A n d)).heap[g]? = some (.cells ((cur.setIfInBounds (o + hs.length * 2) (.int .i64 (n : Int))).setIfInBounds (o + hs.length * 2 + 1) (.slice A n d)) 24 (0, 0)) := by
        exact heap_set1 (heap_set1 q1 _ _) _ _
      refine ⟨_, hh, by simp; omega, by simp; omega, q4, fun j x hj => ?_⟩
      by_cases hjl : j < hs.length
      · rw [List.getElem?_append_left hjl] at hj
        obtain ⟨e1, e2⟩ := q5 j x hj
        constructor
        · rw [Array.getElem?_setIfInBounds_ne (by omega), Array.getElem?_setIfInBounds_ne (by omega)]; exact e1
        · rw [Array.getElem?_setIfInBounds_ne (by omega), Array.getElem?_setIfInBounds_ne (by omega)]; exact e2
      · rw [List.getElem?_append_right (by omega)] at hj
        have hj0 : j - hs.length = 0 := by
          have := (List.getElem?_eq_some_iff.1 hj).1
          simpa using this
        rw [hj0] at hj
        simp at hj
        subst hj
        have hje : j = hs.length := by omega
        subst hje
        constructor
        · rw [Array.getElem?_setIfInBounds_ne (by omega), show o + 2 * hs.length = o + hs.length * 2 by omega, Array.getElem?_setIfInBounds_self_of_lt (by omega)]
        · rw [show o + 2 * hs.length + 1 = o + hs.length * 2 + 1 by omega, Array.getElem?_setIfInBounds_self_of_lt (by simp; omega)]
    · exact ((Only.refl g (g + 1) w).setCell (p := ⟨g, o + hs.length * 2, none⟩) (Nat.le_refl _) (Nat.lt_succ_self _) _).setCell (p := ⟨g, o + hs.length * 2 + 1, none⟩) (Nat.le_refl _) (Nat.lt_succ_self _) _
  · intro hr v' w' ho' hg'
    have e : qv n hs ++ [.int .i64 (n : Int), .slice A n d] = qv n (hs ++ [(A, d)]) := by unfold qv; rw [List.flatMap_append]; rfl
    rw [e] at ho'
    obtain ⟨g', c', rfl, h1, h2, h3⟩ := ownQ_of ho' (by omega)
    refine h g' 0 c' w' h3 (.inr h1) ⟨hg'.os, hg'.tape, hg'.output, hg'.size, fun k hk _ => hg'.block k hk (by simp)⟩
end Go.Proofs.YtaocjjocncoahaaDoor
