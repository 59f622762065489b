/- Slices of slices of int: a table that reads as rows of numbers; a table of a call's own; the laws' helpers on them, walked. -/
import Derived.Test.YtaocjjocncoahaaPush
import Derived.Deep.RegionHeld3
namespace Go.Proofs.Ytaocjjocncoahaa
open Go.RowKit

/-- The outer slice's values. -/
def rowVs (hs : List (Option Addr × Nat)) (rs : List (List Int)) : List Value := List.zipWith (fun h r => Value.slice h.1 r.length h.2) hs rs
theorem rowVs_length (hs : List (Option Addr × Nat)) (rs : List (List Int)) (h : hs.length = rs.length) : (rowVs hs rs).length = rs.length := by simp [rowVs, h]
theorem rowVs_get (hs : List (Option Addr × Nat)) (rs : List (List Int)) (k : Nat) (h1 : k < hs.length) (h2 : k < rs.length) : (rowVs hs rs)[k]? = some (.slice hs[k].1 rs[k].length hs[k].2) := by
  simp [rowVs, List.getElem?_zipWith, h1, h2]
theorem rowVs_snoc (hs : List (Option Addr × Nat)) (rs : List (List Int)) (h : Option Addr × Nat) (r : List Int) (hl : hs.length = rs.length) : rowVs (hs ++ [h]) (rs ++ [r]) = rowVs hs rs ++ [.slice h.1 r.length h.2] := by
  unfold rowVs
  rw [List.zipWith_append hl]
  rfl

/-- A slice of slices at A that reads as the rows rs, below B. -/
def Table (w : World) (B : Nat) (A : Option Addr) (rs : List (List Int)) : Prop :=
  ∃ hs : List (Option Addr × Nat), hs.length = rs.length ∧ Row w B A (rowVs hs rs) ∧ ∀ i (h1 : i < hs.length) (h2 : i < rs.length), Row w B hs[i].1 (ints rs[i])
section
variable {w w' : World} {B B' : Nat} {A : Option Addr} {rs : List (List Int)}
theorem Table.keep (h : Table w B A rs) (hk : ∀ p : Addr, p.block < B → w'.cell? p = w.cell? p) : Table w' B A rs := by
  obtain ⟨hs, e, h1, h2⟩ := h
  exact ⟨hs, e, h1.keep hk, fun i a b => (h2 i a b).keep hk⟩
theorem Table.mono (h : Table w B A rs) (hB : B ≤ B') : Table w B' A rs := by
  obtain ⟨hs, e, h1, h2⟩ := h
  exact ⟨hs, e, h1.mono hB, fun i a b => (h2 i a b).mono hB⟩
theorem Table.below (h : Table w B A rs) (hb : Below B' w w') (hB : B ≤ B') : Table w' B A rs := h.keep fun p hp => hb.cell (p := p) (by omega)
theorem Table.rowAt (h : Table w B A rs) (hb : Below w.heap.size w w') (hB : B ≤ w.heap.size) : Table w' w'.heap.size A rs := (h.below hb hB).mono (Nat.le_trans hB hb.size)
theorem Table.rowOnly {lo hi : Nat} (h : Table w B A rs) (ho : Only lo hi w w') (hB : B ≤ lo) (hw : B ≤ w.heap.size) : Table w' B A rs := h.below (ho.below hB hw) (Nat.le_refl _)
theorem Table.drewN (h : Table w B A rs) (n : Nat) : Table (w.drewN n) B A rs := h
theorem Table.at_ (h : Table w B A rs) {k : Nat} (hk : k < rs.length) : ∃ b off A' c', A = some ⟨b, off, none⟩ ∧ b < B ∧ w.cell? ⟨b, off + k, none⟩ = some (.slice A' rs[k].length c') ∧ Row w B A' (ints rs[k]) := by
  obtain ⟨hs, e, h1, h2⟩ := h
  obtain ⟨b, off, ea, hb, hc⟩ := h1 (by rw [rowVs_length _ _ e]; omega)
  exact ⟨b, off, hs[k].1, hs[k].2, ea, hb, hc k _ (rowVs_get hs rs k (by omega) hk), h2 k (by omega) hk⟩
theorem Table.nil (w : World) (B : Nat) (A : Option Addr) : Table w B A [] := ⟨[], rfl, Row.nil _ _ _, fun i h => absurd h (by simp)⟩
end

/-- The rows themselves lie in blocks of the call's own, each in another. -/
def Inner (w : World) (lo hi : Nat) (hs : List (Option Addr × Nat)) (rs : List (List Int)) : Prop :=
  (∀ i (h1 : i < hs.length) (h2 : i < rs.length), Own w lo hi 3 hs[i].1 hs[i].2 (ints rs[i])) ∧ ∀ i j (h1 : i < hs.length) (h2 : j < hs.length), i ≠ j → hs[i].1 = none ∨ hs[i].1 ≠ hs[j].1
/-- A table of a call's own. -/
def OwnT (w : World) (lo hi : Nat) (A : Option Addr) (c : Nat) (rs : List (List Int)) : Prop :=
  ∃ hs : List (Option Addr × Nat), hs.length = rs.length ∧ Own w lo hi 24 A c (rowVs hs rs) ∧ Inner w lo hi hs rs
section
variable {w w' : World} {lo hi lo' hi' : Nat} {A : Option Addr} {c : Nat} {rs : List (List Int)} {hs : List (Option Addr × Nat)}
theorem Inner.keep (h : Inner w lo hi hs rs) (hk : ∀ g, lo ≤ g → g < hi → w'.heap[g]? = w.heap[g]?) : Inner w' lo hi hs rs := ⟨fun i a b => (h.1 i a b).keep hk, h.2⟩
theorem Inner.mono (h : Inner w lo hi hs rs) (h1 : lo' ≤ lo) (h2 : hi ≤ hi') : Inner w lo' hi' hs rs := ⟨fun i a b => (h.1 i a b).mono h1 h2, h.2⟩
theorem OwnT.keep (h : OwnT w lo hi A c rs) (hk : ∀ g, lo ≤ g → g < hi → w'.heap[g]? = w.heap[g]?) : OwnT w' lo hi A c rs := by
  obtain ⟨hs, e, h1, h2⟩ := h
  exact ⟨hs, e, h1.keep hk, h2.keep hk⟩
theorem OwnT.mono (h : OwnT w lo hi A c rs) (h1 : lo' ≤ lo) (h2 : hi ≤ hi') : OwnT w lo' hi' A c rs := by
  obtain ⟨hs, e, g1, g2⟩ := h
  exact ⟨hs, e, g1.mono h1 h2, g2.mono h1 h2⟩
theorem OwnT.below {B : Nat} (h : OwnT w lo hi A c rs) (hb : Below B w w') (hB : hi ≤ B) : OwnT w' lo hi A c rs := h.keep fun g _ hg => hb.block g (by omega)
theorem OwnT.alloc (h : OwnT w lo hi A c rs) (hB : hi ≤ w.heap.size) (o : Obj) : OwnT (w.alloc o) lo hi A c rs := h.keep fun g _ hg => Below.heap_alloc w o g (by omega)
theorem OwnT.drewN (h : OwnT w lo hi A c rs) (n : Nat) : OwnT (w.drewN n) lo hi A c rs := h
theorem OwnT.only (h : OwnT w lo hi A c rs) (ho : Only lo' hi' w w') (hB : hi ≤ w.heap.size) (hr : hi ≤ lo' ∨ hi' ≤ lo) : OwnT w' lo hi A c rs := h.keep fun g a b => ho.block g (by omega) (by omega)
theorem OwnT.setCell (h : OwnT w lo hi A c rs) {p : Addr} (hp : p.block < lo ∨ hi ≤ p.block) (u : Value) : OwnT (w.setCell p u) lo hi A c rs :=
  h.keep fun g a b => Below.heap_setCell w p u g (by omega)
theorem OwnT.nil (w : World) (lo hi : Nat) : OwnT w lo hi none 0 [] := ⟨[], rfl, Own.nil _ _ _ _, ⟨fun i h => absurd h (by simp), fun i j h => absurd h (by simp)⟩⟩
theorem OwnT.empty {w : World} {lo hi c : Nat} {A : Option Addr} (h : Own w lo hi 24 A c []) : OwnT w lo hi A c [] := ⟨[], rfl, h, ⟨fun i h => absurd h (by simp), fun i j h => absurd h (by simp)⟩⟩
theorem OwnT.table (h : OwnT w lo hi A c rs) : Table w hi A rs := by
  obtain ⟨hs, e, h1, h2⟩ := h
  exact ⟨hs, e, h1.row, fun i a b => (h2.1 i a b).row⟩
theorem OwnT.rowAt {W : World} (h : OwnT w lo hi A c rs) (hb : Below w.heap.size w W) (hhi : hi ≤ w.heap.size) : Table W W.heap.size A rs := (h.table.below hb hhi).mono (Nat.le_trans hhi hb.size)
theorem OwnT.len (h : OwnT w lo hi A c rs) : rs.length ≤ c ∧ c ≤ maxLen := by
  obtain ⟨hs, e, h1, h2⟩ := h
  have := h1.cap
  rwa [rowVs_length _ _ e] at this
end
/-- A block of int cells is none of slices of int. -/
theorem own_apart {w : World} {lo hi lo' hi' c c' : Nat} {A A' : Option Addr} {vs vs' : List Value} (h : Own w lo hi 24 A c vs) (h' : Own w lo' hi' 3 A' c' vs') : A = none ∨ A ≠ A' := by
  rcases h with ⟨e, _⟩ | ⟨g, cur, e, _, _, hh, _⟩
  · exact .inl e
  · right
    intro ee
    rcases h' with ⟨e', _⟩ | ⟨g', cur', e', _, _, hh', _⟩
    · rw [e, e'] at ee; cases ee
    · rw [e, e'] at ee
      simp only [Option.some.injEq, Addr.mk.injEq, and_true] at ee
      subst ee
      rw [hh] at hh'
      simp at hh'
theorem own_block {w : World} {lo hi c : Nat} {t : TypeId} {A : Option Addr} {vs : List Value} (h : Own w lo hi t A c vs) : A = none ∨ ∃ g, A = some ⟨g, 0, none⟩ ∧ lo ≤ g ∧ g < hi := by
  rcases h with ⟨e, _⟩ | ⟨g, cur, e, a, b, _⟩
  · exact .inl e
  · exact .inr ⟨g, e, a, b⟩
/-- A row whose block is not among those that were turned. -/
theorem Own.apart {w w' : World} {lo hi c : Nat} {t : TypeId} {A : Option Addr} {vs : List Value} (h : Own w lo hi t A c vs) (hk : ∀ g, A = some ⟨g, 0, none⟩ → w'.heap[g]? = w.heap[g]?) : Own w' lo hi t A c vs := by
  rcases h with h | ⟨g, cur, e, a, b, hh, r⟩
  · exact .inl h
  · exact .inr ⟨g, cur, e, a, b, (hk g e).trans hh, r⟩
theorem own_none {w : World} {lo hi lo' hi' c : Nat} {t : TypeId} {A : Option Addr} {vs : List Value} (h : Own w lo hi t A c vs) (hA : A = none) : Own w lo' hi' t A c vs := by
  rcases h with h | ⟨g, cur, e, _⟩
  · exact .inl h
  · rw [hA] at e; cases e
/-- A row of one's own, said of its own block alone. -/
theorem Own.one {w : World} {lo hi c g : Nat} {t : TypeId} {vs : List Value} (h : Own w lo hi t (some ⟨g, 0, none⟩) c vs) : Own w g (g + 1) t (some ⟨g, 0, none⟩) c vs ∧ lo ≤ g ∧ g < hi := by
  rcases h with ⟨e, _⟩ | ⟨g', cur, e, a, b, r⟩
  · cases e
  · simp only [Option.some.injEq, Addr.mk.injEq, and_true] at e
    subst e
    exact ⟨.inr ⟨g, cur, rfl, Nat.le_refl _, by omega, r⟩, a, b⟩

theorem ints_info : (Try.prog.info? 24).map (fun i => (i.zero, i.size, i.bytes)) = some (some (.slice none 0 0), 1, 24) := by kernel_rfl

/-- The call has laid a new table and turned nothing that was there. -/
def NewTable (w : World) (rs : List (List Int)) (e : Ending) (w' : World) : Prop :=
  ∃ A c, e = .returned (.slice A rs.length c) ∧ OwnT w' w.heap.size w'.heap.size A c rs ∧ Below w.heap.size w w'
/-- The same, with a word beside. -/
def NewTableOk (w : World) (rs : List (List Int)) (b : Bool) (e : Ending) (w' : World) : Prop :=
  ∃ A c, e = .returned (.tuple #[.slice A rs.length c, .bool b]) ∧ OwnT w' w.heap.size w'.heap.size A c rs ∧ Below w.heap.size w w'
theorem newTable_none {w w' : World} {rs : List (List Int)} (e : rs = []) (h : Below w.heap.size w w') : NewTable w rs (.returned (.slice none 0 0)) w' := by
  subst e
  exact ⟨none, 0, rfl, OwnT.nil _ _ _, h⟩

/-! ### The laws' helpers -/
/-- The marks that a table's rows get. -/
def markRows : Int → List (List Int) → List (List Int)
  | _, [] => []
  | k, r :: rs => marks k r.length :: markRows (k + (r.length : Int)) rs
/-- How many numbers a table holds. -/
def total : List (List Int) → Nat
  | [] => 0
  | r :: rs => r.length + total rs
theorem markRows_length (k : Int) (rs : List (List Int)) : (markRows k rs).length = rs.length := by
  induction rs generalizing k with
  | nil => rfl
  | cons r rs ih => simp [markRows, ih]
theorem total_snoc (rs : List (List Int)) (r : List Int) : total (rs ++ [r]) = total rs + r.length := by
  induction rs with
  | nil => simp [total]
  | cons x rs ih => simp only [List.cons_append, total, ih]; omega
theorem markRows_snoc (k : Int) (rs : List (List Int)) (r : List Int) : markRows k (rs ++ [r]) = markRows k rs ++ [marks (k + (total rs : Int)) r.length] := by
  induction rs generalizing k with
  | nil => simp [markRows, total]
  | cons x rs ih =>
    simp only [List.cons_append, markRows, ih, total]
    rw [show k + (x.length : Int) + (total rs : Int) = k + ((x.length + total rs : Nat) : Int) by omega]
theorem markRows_get (k : Int) (rs : List (List Int)) (j : Nat) (hj : j < rs.length) (h : j < (markRows k rs).length) : (markRows k rs)[j] = marks (k + (total (rs.take j) : Int)) rs[j].length := by
  induction rs generalizing k j with
  | nil => simp at hj
  | cons r rs ih =>
    cases j with
    | zero => simp [markRows, total]
    | succ j =>
      simp only [markRows, List.getElem_cons_succ, List.take_succ_cons, total]
      rw [ih _ j (by simpa using hj)]
      rw [show k + (r.length : Int) + (total (rs.take j) : Int) = k + ((r.length + total (rs.take j) : Nat) : Int) by omega]
theorem total_take (rs : List (List Int)) (j : Nat) (hj : j < rs.length) : total (rs.take (j + 1)) = total (rs.take j) + rs[j].length := by
  rw [List.take_succ_eq_append_getElem hj, total_snoc]
theorem total_le (rs : List (List Int)) (j : Nat) : total (rs.take j) ≤ total rs := by
  induction rs generalizing j with
  | nil => simp
  | cons r rs ih =>
    cases j with
    | zero => simp [total]
    | succ j => simp only [List.take_succ_cons, total]; have := ih j; omega
/-- The rows when j of them are marked. -/
def markSt (k : Int) (rs : List (List Int)) (j : Nat) : List (List Int) := markRows k (rs.take j) ++ rs.drop j
theorem markRows_take (k : Int) (rs : List (List Int)) (j : Nat) : (markRows k (rs.take j)).length = min j rs.length := by rw [markRows_length, List.length_take]
theorem markSt_length (k : Int) (rs : List (List Int)) (j : Nat) : (markSt k rs j).length = rs.length := by
  unfold markSt
  rw [List.length_append, markRows_length, List.length_take, List.length_drop]
  omega
theorem markSt_get? (k : Int) (rs : List (List Int)) (j : Nat) (hj : j < rs.length) : (markSt k rs j)[j]? = some rs[j] := by
  have hm := markRows_take k rs j
  unfold markSt
  rw [List.getElem?_append_right (by omega), hm, List.getElem?_drop, show j + (j - min j rs.length) = j by omega, List.getElem?_eq_getElem hj]
theorem markSt_get (k : Int) (rs : List (List Int)) (j : Nat) (hj : j < rs.length) (h : j < (markSt k rs j).length) : (markSt k rs j)[j] = rs[j] := by
  have := markSt_get? k rs j hj
  rw [List.getElem?_eq_getElem h] at this
  simpa using this
theorem markSt_len? (k : Int) (rs : List (List Int)) (j i : Nat) (hi : i < rs.length) : ((markSt k rs j)[i]?).map List.length = some rs[i].length := by
  have hm := markRows_take k rs j
  unfold markSt
  by_cases hij : i < j
  · have hi2 : i < (rs.take j).length := by rw [List.length_take]; omega
    rw [List.getElem?_append_left (by omega), List.getElem?_eq_getElem (by omega), markRows_get _ _ i hi2]
    simp [marks_length]
  · rw [List.getElem?_append_right (by omega), hm, List.getElem?_drop, show j + (i - min j rs.length) = i by omega, List.getElem?_eq_getElem hi]
    rfl
theorem markSt_next (k : Int) (rs : List (List Int)) (j : Nat) (hj : j < rs.length) : markSt k rs (j + 1) = (markSt k rs j).set j (marks (k + (total (rs.take j) : Int)) rs[j].length) := by
  unfold markSt
  rw [List.take_succ_eq_append_getElem hj, markRows_snoc, List.set_append_right _ _ (by rw [markRows_take]; omega), markRows_take]
  rw [show j - min j rs.length = 0 by omega, List.drop_eq_getElem_cons hj, List.set_cons_zero, List.append_assoc]
  rfl
theorem markSt_end (k : Int) (rs : List (List Int)) : markSt k rs rs.length = markRows k rs := by simp [markSt]

def MarkedT (w : World) (lo hi : Nat) (A : Option Addr) (c : Nat) (k : Int) (rs : List (List Int)) (e : Ending) (w' : World) : Prop :=
  e = .returned (.int .i64 (k + (total rs : Int))) ∧ OwnT w' lo hi A c (markRows k rs) ∧ Only lo hi w w'

end Go.Proofs.Ytaocjjocncoahaa
