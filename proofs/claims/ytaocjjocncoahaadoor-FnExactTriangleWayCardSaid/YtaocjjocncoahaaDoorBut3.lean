/- Three blocks alone are turned; a row's own block, tightly. -/
import Derived.Test.YtaocjjocncoahaaDoorSortFO
namespace Go.Proofs.YtaocjjocncoahaaDoor
open Go.RowKit

structure But3 (a b c : Nat) (w w' : World) : Prop where
  os : w'.os = w.os
  tape : w'.tape = w.tape
  output : w'.output = w.output
  size : w.heap.size ≤ w'.heap.size
  block : ∀ g, g < w.heap.size → g ≠ a → g ≠ b → g ≠ c → w'.heap[g]? = w.heap[g]?
section
variable {a b c : Nat} {w w' w'' : World}
theorem But3.refl (a b c : Nat) (w : World) : But3 a b c w w := ⟨rfl, rfl, rfl, Nat.le_refl _, fun _ _ _ _ _ => rfl⟩
theorem But3.trans (h : But3 a b c w w') (k : But3 a b c w' w'') : But3 a b c w w'' :=
  ⟨k.os.trans h.os, k.tape.trans h.tape, k.output.trans h.output, Nat.le_trans h.size k.size, fun g hg ha hb hc => (k.block g (Nat.lt_of_lt_of_le hg h.size) ha hb hc).trans (h.block g hg ha hb hc)⟩
theorem But3.of_below (h : Below w.heap.size w w') : But3 a b c w w' := ⟨h.os, h.tape, h.output, h.size, fun g hg _ _ _ => h.block g hg⟩
theorem But3.of_only {lo hi : Nat} (h : Only lo hi w w') (ho : ∀ g, lo ≤ g → g < hi → g = a ∨ g = b ∨ g = c) : But3 a b c w w' :=
  ⟨h.os, h.tape, h.output, h.size, fun g hg ha hb hc => h.block g hg (by
    rcases Nat.lt_or_ge g lo with h1 | h1
    · exact .inl h1
    · rcases Nat.lt_or_ge g hi with h2 | h2
      · rcases ho g h1 h2 with e | e | e
        · exact absurd e ha
        · exact absurd e hb
        · exact absurd e hc
      · exact .inr h2)⟩
theorem But3.setCell (h : But3 a b c w w') {p : Addr} (hp : p.block = a ∨ p.block = b ∨ p.block = c) (u : Value) : But3 a b c w (w'.setCell p u) :=
  ⟨h.os, h.tape, h.output, by rw [World.size_setCell]; exact h.size, fun g hg ha hb hc => (Below.heap_setCell w' p u g (fun e => by
    rcases hp with hp | hp | hp
    · exact ha (e.trans hp)
    · exact hb (e.trans hp)
    · exact hc (e.trans hp))).trans (h.block g hg ha hb hc)⟩
theorem But3.drew (h : But3 a b c w w') : But3 a b c w w'.drew := ⟨h.os, h.tape, h.output, h.size, h.block⟩
theorem But3.drewN (h : But3 a b c w w') (n : Nat) : But3 a b c w (w'.drewN n) := ⟨h.os, h.tape, h.output, h.size, h.block⟩
theorem But3.cell (h : But3 a b c w w') {p : Addr} (hp : p.block < w.heap.size) (ha : p.block ≠ a) (hb : p.block ≠ b) (hc : p.block ≠ c) : w'.cell? p = w.cell? p := World.cell?_of_block (h.block _ hp ha hb hc)
theorem But3.frozen (h : But3 a b c w w') {p : Addr} (hp : p.block < w.heap.size) (ha : p.block ≠ a) (hb : p.block ≠ b) (hc : p.block ≠ c) : w'.frozen? p = w.frozen? p := World.frozen?_of_block (h.block _ hp ha hb hc)
theorem But3.below {B : Nat} (h : But3 a b c w w') (hB : B ≤ w.heap.size) (ha : B ≤ a) (hb : B ≤ b) (hc : B ≤ c) : Below B w w' :=
  ⟨h.os, h.tape, h.output, Nat.le_trans hB h.size |> fun _ => h.size, fun g hg => h.block g (by omega) (by omega) (by omega) (by omega)⟩
end
theorem Own.tight {w : World} {lo hi g : Nat} {t : TypeId} {c : Nat} {vs : List Value} (h : Own w lo hi t (some ⟨g, 0, none⟩) c vs) : Own w g (g + 1) t (some ⟨g, 0, none⟩) c vs ∧ lo ≤ g ∧ g < hi ∧ g < w.heap.size := by
  rcases h with ⟨h, _⟩ | ⟨g', cur, e, a, b, hh, h1, h2, h3, h4⟩
  · cases h
  · simp only [Option.some.injEq, Addr.mk.injEq, and_true] at e
    subst e
    exact ⟨.inr ⟨g, cur, rfl, Nat.le_refl _, Nat.lt_succ_self _, hh, h1, h2, h3, h4⟩, a, b, (Array.getElem?_eq_some_iff.1 hh).1⟩
end Go.Proofs.YtaocjjocncoahaaDoor
