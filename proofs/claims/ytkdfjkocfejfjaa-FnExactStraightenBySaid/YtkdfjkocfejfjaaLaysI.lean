/- slices.Insert: the shelf's table of numbers (laid by the kit's tool for this program), and its contract in our words. -/
import Derived.Shelf.Spec.SlicesInsert
import Derived.Shelf.Spec.SlicesInsertGrow
import Derived.Test.YtkdfjkocfejfjaaTourOf
namespace Go.Proofs.Ytkdfjkocfejfjaa
open Go.RowKit

def laysI_ren : Go.Shelf.Ren := ⟨fun | 21 => 81 | 27 => 103 | 28 => 104 | 35 => 114 | 39 => 116 | n => n, fun | 22 => 22 | 3 => 3 | 4 => 4 | 0 => 0 | n => n, fun | n => n⟩
theorem laysI : Go.Proofs.Lays2.n21 Try.prog laysI_ren := {
  mixed := by kernel_rfl
  f21 := Try.func81.trans (congrArg some (by kernel_rfl))
  f27 := Try.func103.trans (congrArg some (by kernel_rfl))
  f28 := Try.func104.trans (congrArg some (by kernel_rfl))
  f35 := Try.func114.trans (congrArg some (by kernel_rfl))
  f39 := Try.func116.trans (congrArg some (by kernel_rfl))
  t0 := Try.underlying0
  a0 := Try.isAgg0
  z0 := Try.sizeOf0
  v0 := Try.zeroValue0
  t3 := Try.underlying3
  a3 := Try.isAgg3
  z3 := Try.sizeOf3
  v3 := Try.zeroValue3
  t4 := Try.underlying4
  a4 := Try.isAgg4
  z4 := Try.sizeOf4
  v4 := Try.zeroValue4
  t22 := Try.underlying22
  a22 := Try.isAgg22
  z22 := Try.sizeOf22
  v22 := Try.zeroValue22
  i3 := by kernel_rfl }
/-- x put into a list at i. -/
def insAt (zs : List Int) (i : Nat) (x : Int) : List Int := zs.take i ++ x :: zs.drop i
theorem insAt_length (zs : List Int) (i : Nat) (x : Int) (h : i ≤ zs.length) : (insAt zs i x).length = zs.length + 1 := by simp [insAt]; omega
def setRow : List Value → Nat → List Value → List Value
  | l, _, [] => l
  | l, o, v :: r => setRow (l.set o v) (o + 1) r
theorem setRow_eq : ∀ (vs l : List Value) (o : Nat), o + vs.length ≤ l.length → setRow l o vs = l.take o ++ vs ++ l.drop (o + vs.length)
  | [], l, o, _ => by simp [setRow]
  | v :: r, l, o, h => by
    rw [List.length_cons] at h
    rw [setRow, setRow_eq r (l.set o v) (o + 1) (by rw [List.length_set]; omega)]
    have h1 : (l.set o v).take (o + 1) = l.take o ++ [v] := by
      rw [List.take_succ_eq_append_getElem (by rw [List.length_set]; omega), List.getElem_set_self, List.take_set_of_le (Nat.le_refl _)]
    have h2 : (l.set o v).drop (o + 1 + r.length) = l.drop (o + (r.length + 1)) := by
      rw [List.drop_set_of_lt (by omega)]
      congr 1
      omega
    rw [h1, h2, List.length_cons]
    simp
theorem heap_setCells_same : ∀ (vs : List Value) (w : World) (g o : Nat) (cur : Array Value) (t : TypeId), w.heap[g]? = some (.cells cur t (0, 0)) →
    ∃ cur' : Array Value, (w.setCells g o vs).heap[g]? = some (.cells cur' t (0, 0)) ∧ cur'.size = cur.size ∧ cur'.toList = setRow cur.toList o vs
  | [], w, g, o, cur, t, h => ⟨cur, h, rfl, rfl⟩
  | v :: r, w, g, o, cur, t, h => by
    obtain ⟨c', h1, h2, h3⟩ := heap_setCells_same r (w.setCell ⟨g, o, none⟩ v) g (o + 1) (cur.setIfInBounds o v) t (heap_setCell_same w g o cur t v h)
    exact ⟨c', h1, by rw [h2]; simp, by rw [h3, Array.toList_setIfInBounds]; rfl⟩
theorem only_setCells {lo hi g : Nat} (h1 : lo ≤ g) (h2 : g < hi) : ∀ (vs : List Value) (w : World) (o : Nat), Only lo hi w (w.setCells g o vs)
  | [], w, o => Only.refl _ _ _
  | v :: r, w, o => ((Only.refl lo hi w).setCell (p := ⟨g, o, none⟩) h1 h2 v).trans (only_setCells h1 h2 r _ _)
theorem ins_grow (l cs : List Value) (x : Value) (i n : Nat) (hn : cs.length = n) (hi : i ≤ n) (hl : n + 1 ≤ l.length) (ht : l.take i = cs.take i) :
    (setRow (setRow l i [x]) (i + 1) (cs.drop i)).take (n + 1) = cs.take i ++ x :: cs.drop i := by
  have h1 : setRow l i [x] = l.take i ++ [x] ++ l.drop (i + 1) := setRow_eq [x] l i (by simp; omega)
  have hlen : (setRow l i [x]).length = l.length := by rw [h1]; simp; omega
  have hd : (cs.drop i).length = n - i := by rw [List.length_drop, hn]
  rw [setRow_eq (cs.drop i) _ (i + 1) (by rw [hlen, hd]; omega)]
  have h2 : (setRow l i [x]).take (i + 1) = l.take i ++ [x] := by
    rw [h1]
    exact List.take_left' (by simp; omega)
  rw [h2, ht]
  have h3 : (cs.take i ++ [x] ++ cs.drop i).length = n + 1 := by simp; omega
  rw [List.take_left' h3]
  simp
theorem ins_shift (l cs : List Value) (x : Value) (i n : Nat) (hn : cs.length = n) (hi : i ≤ n) (hl : n + 1 ≤ l.length) (ht : l.take n = cs) :
    (setRow (setRow l (i + 1) (cs.drop i)) i [x]).take (n + 1) = cs.take i ++ x :: cs.drop i := by
  have hd : (cs.drop i).length = n - i := by rw [List.length_drop, hn]
  have h1 := setRow_eq (cs.drop i) l (i + 1) (by rw [hd]; omega)
  have hlen : (setRow l (i + 1) (cs.drop i)).length = l.length := by rw [h1]; simp; omega
  rw [setRow_eq [x] _ i (by rw [hlen]; simp; omega)]
  have h2 : (setRow l (i + 1) (cs.drop i)).take i = cs.take i := by
    rw [h1, ← ht, List.append_assoc, List.take_append_of_le_length (by simp; omega), List.take_take, List.take_take]
    congr 1
    omega
  have h3 : (setRow l (i + 1) (cs.drop i)).drop (i + 1) = cs.drop i ++ l.drop (i + 1 + (cs.drop i).length) := by
    rw [h1, List.append_assoc]
    exact List.drop_left' (by simp; omega)
  rw [h2, List.length_singleton, h3]
  have h4 : (cs.take i ++ [x] ++ cs.drop i).length = n + 1 := by simp; omega
  rw [show cs.take i ++ [x] ++ (cs.drop i ++ l.drop (i + 1 + (cs.drop i).length)) = (cs.take i ++ [x] ++ cs.drop i) ++ l.drop (i + 1 + (cs.drop i).length) by simp, List.take_left' h4]
  simp
theorem ints_insAt (zs : List Int) (i : Nat) (x : Int) : (ints zs).take i ++ Value.int .i64 x :: (ints zs).drop i = ints (insAt zs i x) := by
  simp [ints, insAt]
end Go.Proofs.Ytkdfjkocfejfjaa
