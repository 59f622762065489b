/- Insertion sort by a comparison, of a slice that has been cut off in front (printed by tools/sortfo.py out of XSortF). -/
import Derived.Test.YtaocjjocncoahaaDoorSortF
namespace Go.Proofs.YtaocjjocncoahaaDoor
open Go.RowKit

/-- The block ga holds the numbers L from off on. -/
def OwnO (w : World) (lo hi ga off : Nat) (L : List Nat) : Prop :=
  lo ≤ ga ∧ ga < hi ∧ ∃ cur, w.heap[ga]? = some (.cells cur 3 (0, 0)) ∧ ∀ k v, L[k]? = some v → cur[off + k]? = some (.int .i64 (v : Nat))
theorem OwnO.of {w : World} {lo hi ga c : Nat} {L : List Nat} (h : Own w lo hi 3 (some ⟨ga, 0, none⟩) c (ints (casts L))) : OwnO w lo hi ga 0 L := by
  rcases h with ⟨h, _⟩ | ⟨g, cur, e, a, b, hb, h1, h2, h3, h4⟩
  · cases h
  · simp only [Option.some.injEq, Addr.mk.injEq, and_true] at e
    subst e
    refine ⟨a, b, cur, hb, fun k v hk => ?_⟩
    rw [Nat.zero_add]
    have hkl : k < L.length := (List.getElem?_eq_some_iff.1 hk).1
    have e : (cur.toList.take (ints (casts L)).length)[k]? = (ints (casts L))[k]? := by rw [h4]
    rw [List.getElem?_take_of_lt (by rw [ints_length, casts_length]; exact hkl)] at e
    rw [← Array.getElem?_toList, e]
    simp [ints, casts, hk]
theorem OwnO.keep {w w' : World} {lo hi ga off : Nat} {L : List Nat} (h : OwnO w lo hi ga off L) (hk : w'.heap[ga]? = w.heap[ga]?) : OwnO w' lo hi ga off L := by
  obtain ⟨a, b, cur, hb, hc⟩ := h
  exact ⟨a, b, cur, hk.trans hb, hc⟩
theorem OwnO.below {w w' : World} {lo hi ga off B : Nat} {L : List Nat} (h : OwnO w lo hi ga off L) (hb : Below B w w') (hB : hi ≤ B) : OwnO w' lo hi ga off L := h.keep (hb.block ga (by have := h.2.1; omega))
theorem OwnO.drew {w : World} {lo hi ga off : Nat} {L : List Nat} (h : OwnO w lo hi ga off L) : OwnO w.drew lo hi ga off L := h
theorem OwnO.alloc {w : World} {lo hi ga off : Nat} {L : List Nat} (h : OwnO w lo hi ga off L) (o : Obj) : OwnO (w.alloc o) lo hi ga off L := by
  have h2 := h
  obtain ⟨_, _, cur, hb, _⟩ := h2
  exact h.keep (Below.heap_alloc w o ga (Array.getElem?_eq_some_iff.1 hb).1)
theorem OwnO.setCell {w : World} {lo hi ga off : Nat} {L : List Nat} (h : OwnO w lo hi ga off L) {p : Addr} (hp : p.block ≠ ga) (u : Value) : OwnO (w.setCell p u) lo hi ga off L := h.keep (Below.heap_setCell w p u ga (fun e => hp e.symm))
theorem OwnO.lt {w : World} {lo hi ga off : Nat} {L : List Nat} (h : OwnO w lo hi ga off L) : ga < w.heap.size := by
  obtain ⟨_, _, cur, hb, _⟩ := h
  exact (Array.getElem?_eq_some_iff.1 hb).1
theorem OwnO.tail {w : World} {lo hi ga off : Nat} {x : Nat} {L : List Nat} (h : OwnO w lo hi ga off (x :: L)) : OwnO w lo hi ga (off + 1) L := by
  obtain ⟨a, b, cur, hb, hc⟩ := h
  refine ⟨a, b, cur, hb, fun k v hk => ?_⟩
  have := hc (k + 1) v (by simpa using hk)
  rwa [show off + 1 + k = off + (k + 1) by omega]
theorem OwnO.nat {w : World} {lo hi ga off : Nat} {L : List Nat} (h : OwnO w lo hi ga off L) {k : Nat} (hk : k < L.length) : w.cell? ⟨ga, off + k, none⟩ = some (.int .i64 (L[k] : Nat)) ∧ w.frozen? ⟨ga, off + k, none⟩ = false := by
  obtain ⟨a, b, cur, hb, hc⟩ := h
  have := hc k L[k] (List.getElem?_eq_getElem hk)
  constructor
  · simp [World.cell?, hb, this]
  · simp [World.frozen?, hb]
theorem OwnO.set {w : World} {lo hi ga off : Nat} {L : List Nat} (h : OwnO w lo hi ga off L) (k x : Nat) : OwnO (w.setCell ⟨ga, off + k, none⟩ (.int .i64 (x : Nat))) lo hi ga off (L.set k x) := by
  obtain ⟨a, b, cur, hb, hc⟩ := h
  refine ⟨a, b, cur.setIfInBounds (off + k) (.int .i64 (x : Nat)), ?_, fun j v hj => ?_⟩
  · obtain ⟨hlt, hk'⟩ := Array.getElem?_eq_some_iff.1 hb
    show (w.heap.modify ga _)[ga]? = _
    rw [Array.getElem?_eq_getElem (by rw [Array.size_modify]; exact hlt), Array.getElem_modify_self, hk']
    rfl
  · rw [Array.getElem?_setIfInBounds]
    rw [List.getElem?_set] at hj
    by_cases e : k = j
    · subst e
      have hin : off + k < cur.size := by
        by_cases hl : k < L.length
        · have := hc k L[k] (List.getElem?_eq_getElem hl)
          exact (Array.getElem?_eq_some_iff.1 this).1
        · simp [hl] at hj
      have hl : k < L.length := by
        by_cases hl : k < L.length
        · exact hl
        · simp [hl] at hj
      simp [hl] at hj
      subst hj
      simp [hin]
    · rw [if_neg e] at hj
      rw [if_neg (by omega)]
      exact hc j v hj
/-- The comparison answers f in every world in which all but the sorted block lies as it lay. -/
def PredCmpO (g : Nat) (lb : Array Value) (f : Nat → Nat → Int) (lo hi n : Nat) (w : World) : Prop :=
  ∀ (W : World) (x y : Nat), Only lo hi w W → x < n → y < n → Calls Tryd.prog g (#[.int .i64 (x : Int), .int .i64 (y : Int)] ++ lb) W fun e w' => e = .returned (.int .i64 (f x y)) ∧ Below W.heap.size W w'
end Go.Proofs.YtaocjjocncoahaaDoor
