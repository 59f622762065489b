/- append(out, x) on a slice of int that the call itself made. -/
import Derived.Test.YtaocjjocncoahaaInts
import Derived.Handy
namespace Go.Proofs.Ytaocjjocncoahaa
open Go.RowKit

theorem only_of_grown {w w' : World} {lo hi : Nat} {t : TypeId} {A : Option Addr} {c : Nat} {vs : List Value} (h : Own w lo hi t A c vs) {n : Nat} (hg : w.grownBy w' (Value.slice A n c).ownBlock) : Only lo hi w w' :=
  ⟨hg.os, hg.tape, hg.output, hg.size, fun g hgs hr => hg.block g hgs (fun e => by
    rcases h with ⟨rfl, _⟩ | ⟨g', cur, rfl, a, b, _⟩
    · simp [Value.ownBlock] at e
    · simp [Value.ownBlock] at e
      omega)⟩

theorem wpList_push {ops : Array Oper} {rest : List Oper} {o : Oper} {a : Act} {Q : Exit → Act → World → Prop} {w : World} (hgd : o.guard = none) (s x : Operand)
    (ho : o.op = .call { callee := .builtin .append, args := #[s, x], argTypes := #[24, 24] })
    (lo hi : Nat) (A : Option Addr) (c n : Nat) (zs : List Int) (z : Int) (g : Nat) (hs : a.eval s = .slice A n c) (hx : a.eval x = .slice (some ⟨g, 0, none⟩) 1 1)
    (hn : n = zs.length) (hown : Own w lo hi 3 A c (ints zs)) (hcell : w.cell? ⟨g, 0, none⟩ = some (.int .i64 z)) (hl : n ≤ 1099511627776) (hlo : lo ≤ w.heap.size)
    (h : ∀ A' c' w', Own w' lo w'.heap.size 3 A' c' (ints (zs ++ [z])) → Only lo hi w w' → wpList Try.prog ops Q rest (a.put o.dst (.slice A' (n + 1) c')) w') : wpList Try.prog ops Q (o :: rest) a w := by
  subst hn
  obtain ⟨i0, hi0, hz0, hz1, hz2⟩ := info_parts int_info
  have hown' := hown.ownsRow
  rw [ints_length] at hown'
  refine wpList_append_own w hgd s x _ ho lo 3 i0 _ 1 8 Try.underlying24 hi0 hz0 hz1 hz2 rfl (by decide) _ zs.length (ints zs) hs hown' ⟨g, 0, none⟩ 1 1 [.int .i64 z] hx rfl ?_ ?_ ?_ ?_ hlo ?_
  · intro j u hu
    match j, hu with
    | 0, hu =>
      simp at hu
      subst hu
      exact hcell
    | j + 1, hu => simp at hu
  · intro u hu
    simp at hu
    subst hu
    rfl
  · unfold maxLen; omega
  · omega
  · intro v' w' h1 h2 _
    obtain ⟨A', c', rfl, hlen, ho'⟩ := own_of_ownsRow h1
    have e : (ints zs ++ [Value.int .i64 z]).length = zs.length + 1 := by simp [ints]
    rw [e]
    refine h A' c' w' ?_ (only_of_grown hown h2)
    simpa [ints] using ho'
end Go.Proofs.Ytaocjjocncoahaa
