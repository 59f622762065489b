/- Words for memory: a slice that reads as a list of values (Row), a row of a call's own in new memory (Own). No program. -/
import Derived.Test.YtaocjjocncoahaaKit
import Derived.Laws.OwnMore
import Derived.Deep.AppendLies
import Derived.Deep.Draws
import Derived.OwnWalk
import Derived.Lib.Hide
namespace Go.Proofs.Ytaocjjocncoahaa
open Go.RowKit

/-- A slice at A reads as the values vs; its block lies below B. -/
def Row (w : World) (B : Nat) (A : Option Addr) (vs : List Value) : Prop :=
  0 < vs.length → ∃ b off, A = some ⟨b, off, none⟩ ∧ b < B ∧ ∀ (i : Nat) (u : Value), vs[i]? = some u → w.cell? ⟨b, off + i, none⟩ = some u

section
variable {w w' : World} {B B' : Nat} {A : Option Addr} {vs : List Value}

theorem Row.nil (w : World) (B : Nat) (A : Option Addr) : Row w B A [] := fun h => absurd h (by simp)
theorem Row.at_ (h : Row w B A vs) {k : Nat} (hk : k < vs.length) : ∃ b off, A = some ⟨b, off, none⟩ ∧ b < B ∧ w.cell? ⟨b, off + k, none⟩ = some vs[k] := by
  obtain ⟨b, off, e, hb, hc⟩ := h (by omega)
  exact ⟨b, off, e, hb, hc k _ (List.getElem?_eq_getElem hk)⟩
theorem Row.keep (h : Row w B A vs) (hk : ∀ p : Addr, p.block < B → w'.cell? p = w.cell? p) : Row w' B A vs := fun hn => by
  obtain ⟨b, off, e, hb, hc⟩ := h hn
  exact ⟨b, off, e, hb, fun i u hu => (hk ⟨b, off + i, none⟩ hb).trans (hc i u hu)⟩
theorem Row.mono (h : Row w B A vs) (hB : B ≤ B') : Row w B' A vs := fun hn => by
  obtain ⟨b, off, e, hb, hc⟩ := h hn
  exact ⟨b, off, e, by omega, hc⟩
theorem Row.below (h : Row w B A vs) (hb : Below B' w w') (hB : B ≤ B') : Row w' B A vs := h.keep fun p hp => hb.cell (p := p) (by omega)
theorem Row.drew (h : Row w B A vs) : Row w.drew B A vs := h
theorem Row.drewN (h : Row w B A vs) (k : Nat) : Row (w.drewN k) B A vs := h
theorem Row.alloc (h : Row w B A vs) (hB : B ≤ w.heap.size) (o : Obj) : Row (w.alloc o) B A vs := h.keep fun p hp => World.cell?_alloc_lt w o p (by omega)
theorem Row.setCell (h : Row w B A vs) {p : Addr} (hB : B ≤ p.block) (u : Value) : Row (w.setCell p u) B A vs :=
  h.keep fun q hq => World.cell?_setCell_other w p q u (fun e => by subst e; omega)
end

/-- A row of a call's own: nil, or at the head of a block from lo up to hi, free to be written. -/
def Own (w : World) (lo hi : Nat) (t : TypeId) (A : Option Addr) (c : Nat) (vs : List Value) : Prop :=
  (A = none ∧ vs = [] ∧ c = 0) ∨ ∃ g cur, A = some ⟨g, 0, none⟩ ∧ lo ≤ g ∧ g < hi ∧ w.heap[g]? = some (.cells cur t (0, 0)) ∧ vs.length ≤ c ∧ c ≤ maxLen ∧ cur.size = c ∧ cur.toList.take vs.length = vs

section
variable {w w' : World} {lo hi lo' hi' : Nat} {t : TypeId} {A : Option Addr} {c : Nat} {vs : List Value}

theorem Own.nil (w : World) (lo hi : Nat) (t : TypeId) : Own w lo hi t none 0 [] := .inl ⟨rfl, rfl, rfl⟩
theorem Own.mono (h : Own w lo hi t A c vs) (h1 : lo' ≤ lo) (h2 : hi ≤ hi') : Own w lo' hi' t A c vs := by
  rcases h with h | ⟨g, cur, e, a, b, r⟩
  · exact .inl h
  · exact .inr ⟨g, cur, e, by omega, by omega, r⟩
theorem Own.keep (h : Own w lo hi t A c vs) (hk : ∀ g, lo ≤ g → g < hi → w'.heap[g]? = w.heap[g]?) : Own w' lo hi t A c vs := by
  rcases h with h | ⟨g, cur, e, a, b, hh, r⟩
  · exact .inl h
  · exact .inr ⟨g, cur, e, a, b, (hk g a b).trans hh, r⟩
theorem Own.below {B : Nat} (h : Own w lo hi t A c vs) (hb : Below B w w') (hB : hi ≤ B) : Own w' lo hi t A c vs := h.keep fun g _ hg => hb.block g (by omega)
theorem Own.drew (h : Own w lo hi t A c vs) : Own w.drew lo hi t A c vs := h
theorem Own.drewN (h : Own w lo hi t A c vs) (k : Nat) : Own (w.drewN k) lo hi t A c vs := h
theorem Own.alloc (h : Own w lo hi t A c vs) (hB : hi ≤ w.heap.size) (o : Obj) : Own (w.alloc o) lo hi t A c vs := h.keep fun g _ hg => Below.heap_alloc w o g (by omega)
theorem Own.setCell (h : Own w lo hi t A c vs) {p : Addr} (hp : p.block < lo ∨ hi ≤ p.block) (u : Value) : Own (w.setCell p u) lo hi t A c vs :=
  h.keep fun g a b => Below.heap_setCell w p u g (by omega)
theorem Own.grown {row : Option Nat} (h : Own w lo hi t A c vs) (hg : w.grownBy w' row) (hB : hi ≤ w.heap.size) (hr : ∀ k, row = some k → k < lo ∨ hi ≤ k) : Own w' lo hi t A c vs :=
  h.keep fun g a b => hg.block g (by omega) (fun e => by rcases hr g e.symm with h | h <;> omega)
theorem Own.ownsRow (h : Own w lo hi t A c vs) : w.ownsRow lo t 1 (.slice A vs.length c) vs.length vs := by
  rcases h with ⟨rfl, rfl, rfl⟩ | ⟨g, cur, rfl, a, b, hh, h1, h2, h3, h4⟩
  · exact ⟨by simp, .inl ⟨rfl, rfl⟩⟩
  · exact ⟨by simp, .inr ⟨g, c, cur, rfl, a, hh, h1, h2, by omega, by simpa using h4⟩⟩
theorem own_of_ownsRow {v : Value} {n : Nat} (h : w.ownsRow lo t 1 v n vs) : ∃ A c, v = .slice A vs.length c ∧ n = vs.length ∧ Own w lo w.heap.size t A c vs := by
  obtain ⟨hl, h⟩ := h
  have hn : n = vs.length := by omega
  subst hn
  rcases h with ⟨rfl, h0⟩ | ⟨g, cap, cur, rfl, a, hh, h1, h2, h3, h4⟩
  · have : vs = [] := List.eq_nil_of_length_eq_zero h0
    subst this
    exact ⟨none, 0, rfl, rfl, .inl ⟨rfl, rfl, rfl⟩⟩
  · exact ⟨_, cap, rfl, rfl, .inr ⟨g, cur, rfl, a, (Array.getElem?_eq_some_iff.1 hh).1, hh, h1, h2, by omega, by simpa using h4⟩⟩
theorem Own.row (h : Own w lo hi t A c vs) : Row w hi A vs := fun hn => by
  rcases h with ⟨_, rfl, _⟩ | ⟨g, cur, rfl, a, b, hh, h1, h2, h3, h4⟩
  · simp at hn
  · refine ⟨g, 0, rfl, b, fun i u hu => ?_⟩
    have hi : i < vs.length := (List.getElem?_eq_some_iff.1 hu).1
    rw [cell_of_row w g (0 + i) cur t (0, 0) hh, Nat.zero_add, ← hu, ← h4, List.getElem?_take, if_pos hi]
    simp
/-- The place of a row of one's own at which there is an element. -/
theorem Own.at_ (h : Own w lo hi t A c vs) {k : Nat} (hk : k < vs.length) : ∃ g, A = some ⟨g, 0, none⟩ ∧ lo ≤ g ∧ g < hi ∧ w.cell? ⟨g, k, none⟩ = some vs[k] ∧ w.frozen? ⟨g, k, none⟩ = false := by
  rcases h with ⟨_, rfl, _⟩ | ⟨g, cur, rfl, a, b, hh, h1, h2, h3, h4⟩
  · simp at hk
  · refine ⟨g, rfl, a, b, ?_, ?_⟩
    · rw [cell_of_row w g k cur t (0, 0) hh]
      have : cur.toList[k]? = vs[k]? := by rw [← h4, List.getElem?_take]; simp [hk]
      rw [List.getElem?_eq_getElem hk] at this
      simpa using this
    · simp [World.frozen?, hh]
theorem Own.set {g : Nat} (h : Own w lo hi t (some ⟨g, 0, none⟩) c vs) (k : Nat) (u : Value) : Own (w.setCell ⟨g, k, none⟩ u) lo hi t (some ⟨g, 0, none⟩) c (vs.set k u) := by
  rcases h with ⟨h, _⟩ | ⟨g', cur, h, a, b, hh, h1, h2, h3, h4⟩
  · cases h
  · simp only [Option.some.injEq, Addr.mk.injEq, and_true] at h
    subst h
    refine .inr ⟨g, cur.setIfInBounds k u, rfl, a, b, heap_setCell_same w g k cur t u hh, by simpa using h1, h2, by simpa using h3, ?_⟩
    rw [Array.toList_setIfInBounds, List.length_set, List.take_set, h4]
theorem Own.cap (h : Own w lo hi t A c vs) : vs.length ≤ c ∧ c ≤ maxLen := by
  rcases h with ⟨_, rfl, rfl⟩ | ⟨g, cur, _, _, _, _, h1, h2, _⟩
  · simp
  · exact ⟨h1, h2⟩
theorem Own.lt {g : Nat} (h : Own w lo hi t (some ⟨g, 0, none⟩) c vs) : g < w.heap.size := by
  rcases h with ⟨h, _⟩ | ⟨g', cur, h, a, b, hh, _⟩
  · cases h
  · simp only [Option.some.injEq, Addr.mk.injEq, and_true] at h
    subst h
    exact (Array.getElem?_eq_some_iff.1 hh).1
theorem Own.made (w : World) (lo : Nat) (t : TypeId) (cs : Array Value) (hlo : lo ≤ w.heap.size) (hm : cs.size ≤ maxLen) :
    Own (w.alloc (.cells cs t)) lo (w.heap.size + 1) t (some ⟨w.heap.size, 0, none⟩) cs.size cs.toList :=
  .inr ⟨w.heap.size, cs, rfl, hlo, by omega, heap_alloc_new w _, by simp, hm, rfl, List.take_of_length_le (Nat.le_refl _)⟩
end

/-- Nothing has turned but what lies in the blocks from lo up to hi, and new blocks. -/
structure Only (lo hi : Nat) (w w' : World) : Prop where
  os : w'.os = w.os
  tape : w'.tape = w.tape
  output : w'.output = w.output
  size : w.heap.size ≤ w'.heap.size
  block : ∀ g, g < w.heap.size → (g < lo ∨ hi ≤ g) → w'.heap[g]? = w.heap[g]?

section
variable {lo hi lo' hi' : Nat} {w w' a b c : World}
theorem Only.refl (lo hi : Nat) (w : World) : Only lo hi w w := ⟨rfl, rfl, rfl, Nat.le_refl _, fun _ _ _ => rfl⟩
theorem Only.trans (h : Only lo hi a b) (k : Only lo hi b c) : Only lo hi a c :=
  ⟨k.os.trans h.os, k.tape.trans h.tape, k.output.trans h.output, Nat.le_trans h.size k.size, fun g hg r => (k.block g (Nat.lt_of_lt_of_le hg h.size) r).trans (h.block g hg r)⟩
theorem Only.drew (h : Only lo hi a b) : Only lo hi a b.drew := ⟨h.os, h.tape, h.output, h.size, h.block⟩
theorem Only.drewN (h : Only lo hi a b) (n : Nat) : Only lo hi a (b.drewN n) := ⟨h.os, h.tape, h.output, h.size, h.block⟩
theorem Only.setCell (h : Only lo hi a b) {p : Addr} (h1 : lo ≤ p.block) (h2 : p.block < hi) (u : Value) : Only lo hi a (b.setCell p u) :=
  ⟨h.os, h.tape, h.output, by simpa using h.size, fun g hg r => (Below.heap_setCell b p u g (by omega)).trans (h.block g hg r)⟩
theorem Only.alloc (h : Only lo hi a b) (o : Obj) : Only lo hi a (b.alloc o) :=
  ⟨h.os, h.tape, h.output, Nat.le_trans h.size (by simp), fun g hg r => (Below.heap_alloc b o g (Nat.lt_of_lt_of_le hg h.size)).trans (h.block g hg r)⟩
theorem Only.of_below (h : Below w.heap.size w w') : Only lo hi w w' := ⟨h.os, h.tape, h.output, h.size, fun g hg _ => h.block g hg⟩
theorem Only.below {B : Nat} (h : Only lo hi w w') (h1 : B ≤ lo) (h2 : B ≤ w.heap.size) : Below B w w' := ⟨h.os, h.tape, h.output, h.size, fun g hg => h.block g (by omega) (.inl (by omega))⟩
theorem Only.mono (h : Only lo hi w w') (h1 : lo' ≤ lo) (h2 : hi ≤ hi') : Only lo' hi' w w' := ⟨h.os, h.tape, h.output, h.size, fun g hg r => h.block g hg (by omega)⟩
theorem Own.only {t : TypeId} {A : Option Addr} {n : Nat} {vs : List Value} (h : Own w lo hi t A n vs) (ho : Only lo' hi' w w') (hB : hi ≤ w.heap.size) (hr : hi ≤ lo' ∨ hi' ≤ lo) : Own w' lo hi t A n vs :=
  h.keep fun g a b => ho.block g (by omega) (by omega)
theorem below_only {B : Nat} (h : Below B a w) (ho : Only lo hi w w') (h1 : B ≤ lo) (h2 : B ≤ w.heap.size) : Below B a w' := h.trans (ho.below h1 h2)
end

/-- The call has laid a new row of the values vs and turned nothing that was there. -/
def NewRow (w : World) (t : TypeId) (vs : List Value) (e : Ending) (w' : World) : Prop :=
  ∃ A c, e = .returned (.slice A vs.length c) ∧ Own w' w.heap.size w'.heap.size t A c vs ∧ Below w.heap.size w w'

theorem Own.rowAt {w W : World} {lo hi : Nat} {t : TypeId} {A : Option Addr} {c : Nat} {vs : List Value} (h : Own w lo hi t A c vs) (hb : Below w.heap.size w W) (hhi : hi ≤ w.heap.size) : Row W W.heap.size A vs :=
  (h.row.below hb hhi).mono (Nat.le_trans hhi hb.size)
theorem Row.rowAt {w W : World} {B : Nat} {A : Option Addr} {vs : List Value} (h : Row w B A vs) (hb : Below w.heap.size w W) (hB : B ≤ w.heap.size) : Row W W.heap.size A vs :=
  (h.below hb hB).mono (Nat.le_trans hB hb.size)
theorem Only.cell {w w' : World} {lo hi : Nat} (h : Only lo hi w w') {p : Addr} (hp : p.block < w.heap.size) (hr : p.block < lo ∨ hi ≤ p.block) : w'.cell? p = w.cell? p :=
  World.cell?_of_block (w := w) (h.block p.block hp hr)
theorem Row.rowOnly {w w' : World} {lo hi : Nat} {A : Option Addr} {vs : List Value} {B : Nat} (h : Row w B A vs) (ho : Only lo hi w w') (hB : B ≤ lo) (hw : B ≤ w.heap.size) : Row w' B A vs := h.below (ho.below hB hw) (Nat.le_refl _)
theorem below_trans {a b c : World} (h : Below a.heap.size a b) (k : Below b.heap.size b c) : Below a.heap.size a c := h.trans (k.mono h.size)
theorem below_drewN {B : Nat} {a w : World} (h : Below B a w) (n : Nat) : Below B a (w.drewN n) := ⟨h.os, h.tape, h.output, h.size, h.block⟩
theorem bcell {W w1 : World} (hb : Below W.heap.size W w1) : (∀ b o, b < W.heap.size → w1.cell? ⟨b, o, none⟩ = W.cell? ⟨b, o, none⟩) ∧ (∀ b o, b < W.heap.size → w1.frozen? ⟨b, o, none⟩ = W.frozen? ⟨b, o, none⟩) :=
  ⟨fun b o h => hb.cell (p := ⟨b, o, none⟩) h, fun b o h => hb.frozen (p := ⟨b, o, none⟩) h⟩

/-! ### Slices of int -/
def ints (zs : List Int) : List Value := zs.map (Value.int .i64)
theorem ints_length (zs : List Int) : (ints zs).length = zs.length := by simp [ints]
theorem ints_get (zs : List Int) (k : Nat) (h : k < zs.length) : (ints zs)[k]? = some (.int .i64 zs[k]) := by simp [ints, h]

theorem Row.int {w : World} {B : Nat} {A : Option Addr} {zs : List Int} (h : Row w B A (ints zs)) {k : Nat} (hk : k < zs.length) :
    ∃ b off, A = some ⟨b, off, none⟩ ∧ b < B ∧ w.cell? ⟨b, off + k, none⟩ = some (.int .i64 zs[k]) := by
  obtain ⟨b, off, e, hb, hc⟩ := h.at_ (k := k) (by rw [ints_length]; exact hk)
  exact ⟨b, off, e, hb, by rw [hc]; simp [ints]⟩
theorem Own.int {w : World} {lo hi : Nat} {t : TypeId} {A : Option Addr} {c : Nat} {zs : List Int} (h : Own w lo hi t A c (ints zs)) {k : Nat} (hk : k < zs.length) :
    ∃ g, A = some ⟨g, 0, none⟩ ∧ lo ≤ g ∧ g < hi ∧ w.cell? ⟨g, k, none⟩ = some (.int .i64 zs[k]) ∧ w.frozen? ⟨g, k, none⟩ = false := by
  obtain ⟨g, e, a, b, hc, hf⟩ := h.at_ (k := k) (by rw [ints_length]; exact hk)
  exact ⟨g, e, a, b, by rw [hc]; simp [ints], hf⟩

/-- The call has laid a new row of the numbers zs and turned nothing that was there. -/
def NewInts (w : World) (t : TypeId) (zs : List Int) (e : Ending) (w' : World) : Prop :=
  ∃ A c, e = .returned (.slice A zs.length c) ∧ Own w' w.heap.size w'.heap.size t A c (ints zs) ∧ Below w.heap.size w w'
end Go.Proofs.Ytaocjjocncoahaa
